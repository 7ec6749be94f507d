/-
  The law RidgeEven of the roofer's ridges answers true whatever Ridge it is handed; no conditions.
-/
import Derived.Test.YtgifjphinkbcaaaTd
import Derived.Test.YtgifjphinkbcaaaTc
set_option linter.unusedVariables false
set_option maxRecDepth 100000
set_option linter.unusedVariables false
namespace Go.Proofs.Ytgifjphinkbcaaa
open Go Go.Ev
/-! ### Names: the two tests agree -/
def byte (nm : ByteArray) (i : Nat) : Int := ((nm.data.toList.getD i 0).toNat : Int)
noncomputable def okc (c : Int) : Bool := !w85_0 c
def okFrom (nm : ByteArray) (i : Nat) : Prop := ∀ j, i ≤ j → j < nm.size → okc (byte nm j) = true
theorem okc_eq (c : Int) : okc c = (decide (97 ≤ c ∧ c ≤ 122) || decide (48 ≤ c ∧ c ≤ 57) || c == 45) := by
  unfold okc w85_0 t85
  by_cases h1 : c ≥ 97 <;> by_cases h2 : c ≤ 122 <;> by_cases h3 : c ≥ 48 <;> by_cases h4 : c ≤ 57 <;> simp [h1, h2, h3, h4, Tr.val]
theorem get_byte {nm : ByteArray} {i : Nat} (h : i < nm.size) : ((nm.get! i).toNat : Int) = byte nm i := by
  have h' : i < nm.data.size := h
  unfold byte
  congr 1
  congr 1
  show nm.data[i]! = _
  rw [getElem!_pos nm.data i h']
  rw [List.getD_eq_getElem?_getD, Array.getElem?_toList, Array.getElem?_eq_getElem h']
  rfl
theorem decode_low {nm : ByteArray} {i : Nat} (h : i < nm.size) (hb : byte nm i < 128) : ((Utf8.decode nm i).1 : Int) = byte nm i ∧ (Utf8.decode nm i).2 = 1 := by
  have hg := get_byte h
  have : (nm.get! i).toNat < 128 := by omega
  unfold Utf8.decode
  simp only [Nat.add_zero, this, if_true]
  exact ⟨hg, trivial⟩
theorem decode_gen2 (b0 b1 b2 b3 : Nat) (c1 c2 c3 : Bool) (hb : ¬ b0 < 0x80) : 128 ≤ (if b0 < 0x80 then (b0, 1)
    else if (b0 / 32 == 6 && c1) = true then
      let c := (b0 % 32) * 64 + b1 % 64
      if c ≥ 0x80 then (c, 2) else (Utf8.runeError, 1)
    else if (b0 / 16 == 14 && c1 && c2) = true then
      let c := (b0 % 16) * 4096 + (b1 % 64) * 64 + b2 % 64
      if (decide (c ≥ 0x800) && Utf8.valid c) = true then (c, 3) else (Utf8.runeError, 1)
    else if (b0 / 8 == 30 && c1 && c2 && c3) = true then
      let c := (b0 % 8) * 262144 + (b1 % 64) * 4096 + (b2 % 64) * 64 + b3 % 64
      if (decide (c ≥ 0x10000) && Utf8.valid c) = true then (c, 4) else (Utf8.runeError, 1)
    else ((Utf8.runeError, 1) : Nat × Nat)).1 := by
  have e : Utf8.runeError = 65533 := rfl
  rw [if_neg hb]
  split
  · dsimp only
    split
    · assumption
    · simp [e]
  split
  · dsimp only
    split
    · rename_i h
      simp only [Bool.and_eq_true, decide_eq_true_eq] at h
      exact Nat.le_trans (by omega) h.1
    · simp [e]
  split
  · dsimp only
    split
    · rename_i h
      simp only [Bool.and_eq_true, decide_eq_true_eq] at h
      exact Nat.le_trans (by omega) h.1
    · simp [e]
  · simp [e]
theorem decode_high {nm : ByteArray} {i : Nat} (h : i < nm.size) (hb : ¬ byte nm i < 128) : 128 ≤ ((Utf8.decode nm i).1 : Int) := by
  have hg := get_byte h
  have hn : ¬ (nm.get! (i + 0)).toNat < 0x80 := by rw [Nat.add_zero]; omega
  have := decode_gen2 (nm.get! (i + 0)).toNat (nm.get! (i + 1)).toNat (nm.get! (i + 2)).toNat (nm.get! (i + 3)).toNat (decide (i + 1 < nm.size) && (nm.get! (i + 1)).toNat / 64 == 2) (decide (i + 2 < nm.size) && (nm.get! (i + 2)).toNat / 64 == 2) (decide (i + 3 < nm.size) && (nm.get! (i + 3)).toNat / 64 == 2) hn
  exact Int.ofNat_le.mpr this
theorem okFrom_succ {nm : ByteArray} {i : Nat} (hi : i < nm.size) : okFrom nm i ↔ okc (byte nm i) = true ∧ okFrom nm (i + 1) := by
  constructor
  · exact fun h => ⟨h i (Nat.le_refl _) hi, fun j h1 h2 => h j (by omega) h2⟩
  · rintro ⟨h1, h2⟩ j h3 h4
    rcases Nat.eq_or_lt_of_le h3 with e | e
    · rw [← e]; exact h1
    · exact h2 j e h4
theorem run94_val (nm : ByteArray) (i : Nat) : ∃ y, r94a true 0 nm i = some y ∧ (match y with
    | .x0 p _ => 0 ≤ p ∧ ¬ okFrom nm i
    | .x1 _ => okFrom nm i) := by
  unfold r94a
  refine run_while (S := Nat) (fun i => nm.size - i) (fun i => (⟨i⟩ : S94a)) (fun _ => True) (fun i (y : T94a) => match y with
    | .x0 p _ => 0 ≤ p ∧ ¬ okFrom nm i
    | .x1 _ => okFrom nm i) (fun i _ => ?_) i trivial
  show _ ∨ ∃ y, stp94a true 0 nm i = _ ∧ _
  unfold stp94a
  simp only [g85_true, cond_true]
  cases hb : i.blt nm.size with
  | false =>
    right
    have : ¬ i < nm.size := by intro h; rw [(by simpa [Nat.blt_eq] using h : i.blt nm.size = true)] at hb; cases hb
    exact ⟨_, rfl, fun j h1 h2 => by omega⟩
  | true =>
    have hi : i < nm.size := by simpa [Nat.blt_eq] using hb
    simp only [cond_true]
    by_cases hl : byte nm i < 128
    · obtain ⟨d1, d2⟩ := decode_low hi hl
      rw [d1, d2]
      cases hw : w85_0 (byte nm i) with
      | true =>
        right
        refine ⟨_, rfl, by omega, fun h => ?_⟩
        have := h i (Nat.le_refl _) hi
        unfold okc at this
        rw [hw] at this; cases this
      | false =>
        left
        refine ⟨i + 1, rfl, trivial, by show nm.size - (i + 1) < nm.size - i; omega, fun y hy => ?_⟩
        have hk : okc (byte nm i) = true := by unfold okc; rw [hw]; rfl
        cases y with
        | x0 p m => exact ⟨hy.1, fun h => hy.2 ((okFrom_succ hi).1 h).2⟩
        | x1 m => exact (okFrom_succ hi).2 ⟨hk, hy⟩
    · have d := decode_high hi hl
      have hw : w85_0 ((Utf8.decode nm i).1 : Int) = true := by
        have := okc_eq ((Utf8.decode nm i).1 : Int)
        unfold okc at this
        have h1 : decide (97 ≤ ((Utf8.decode nm i).1 : Int) ∧ ((Utf8.decode nm i).1 : Int) ≤ 122) = false := decide_eq_false (by omega)
        have h2 : decide (48 ≤ ((Utf8.decode nm i).1 : Int) ∧ ((Utf8.decode nm i).1 : Int) ≤ 57) = false := decide_eq_false (by omega)
        have h3 : (((Utf8.decode nm i).1 : Int) == 45) = false := by simp; omega
        rw [h1, h2, h3] at this
        simpa using this
      rw [hw]
      right
      refine ⟨_, rfl, by omega, fun h => ?_⟩
      have := h i (Nat.le_refl _) hi
      rw [okc_eq] at this
      have h1 : decide (97 ≤ byte nm i ∧ byte nm i ≤ 122) = false := decide_eq_false (by omega)
      have h2 : decide (48 ≤ byte nm i ∧ byte nm i ≤ 57) = false := decide_eq_false (by omega)
      have h3 : (byte nm i == 45) = false := by simp; omega
      rw [h1, h2, h3] at this
      cases this
theorem w84_eq (nm : ByteArray) : w84_0 nm = true ↔ ¬ okFrom nm 0 := by
  obtain ⟨y, hy, hv⟩ := run94_val nm 0
  have h91 : g94 nm true = true := g94_true nm true
  have e : w91_0 nm = w94_0 nm true := by unfold w91_0 t91; rw [h91]; rfl
  have e2 : w84_0 nm = decide (w91_0 nm ≥ 0) := by
    have : g91 nm = true := by unfold g91 t91; rw [h91]; rfl
    unfold w84_0 t84; rw [this]; rfl
  rw [e2, e]
  unfold w94_0 t94 i94a_0 i94a_1 v94a_0_t6'
  rw [hy]
  cases y with
  | x0 p m =>
    have : p ≥ 0 := hv.1
    simp only [Tr.val, cond_true]
    simp [this, hv.2]
  | x1 m =>
    simp only [Tr.val, cond_true, cond_false]
    simp
    exact hv
theorem run66_val (nm : ByteArray) (hs : nm.size ≤ 16) : ∃ y, r66a nm false 0 = some y ∧ (match y with
    | .x0 b _ => b = false ∧ ¬ okFrom nm 0
    | .x1 _ => okFrom nm 0) := by
  unfold r66a
  refine run_for (S := Unit) nm.size (fun i _ => (⟨(i : Int)⟩ : S66a)) (fun _ _ => True) (fun i _ (y : T66a) => match y with
    | .x0 b _ => b = false ∧ ¬ okFrom nm i
    | .x1 _ => okFrom nm i) (fun i _ hi _ => ?_) (fun _ _ => ?_) 0 () (Nat.zero_le _) trivial
  · show (∃ s', stp66a nm false (i : Int) = _ ∧ _) ∨ ∃ y, stp66a nm false (i : Int) = _ ∧ _
    unfold stp66a
    simp only [lt_true hi, inb_true hi, cond_true, Int.toNat_natCast, wrap_succ (show i < 9223372036854775807 by omega)]
    have hby : ((nm.data.toList.getD i 0).toNat : Int) = byte nm i := rfl
    simp only [hby]
    have hk := okc_eq (byte nm i)
    have hgo : okc (byte nm i) = true → ∀ y : T66a, (match y with
      | .x0 b _ => b = false ∧ ¬ okFrom nm (i + 1)
      | .x1 _ => okFrom nm (i + 1)) → (match y with
      | .x0 b _ => b = false ∧ ¬ okFrom nm i
      | .x1 _ => okFrom nm i) := by
      intro hk y hy
      cases y with
      | x0 p m => exact ⟨hy.1, fun h => hy.2 ((okFrom_succ hi).1 h).2⟩
      | x1 m => exact (okFrom_succ hi).2 ⟨hk, hy⟩
    have hno : okc (byte nm i) = false → ¬ okFrom nm i := fun hk h => by
      have := h i (Nat.le_refl _) hi
      rw [hk] at this; cases this
    generalize byte nm i = c at hk hgo hno
    by_cases h1 : c < 97 <;> by_cases h2 : c > 122 <;> by_cases h3 : c < 48 <;> by_cases h4 : c > 57 <;> by_cases h5 : c = 45
    all_goals
      first
        | (exfalso; omega)
        | (left
           refine ⟨(), by simp [h1, h2, h3, h4, h5]; done, trivial, hgo ?_⟩
           rw [hk]
           simp
           omega)
        | (right
           have h6 : (c != 45) = true := by simpa using h5
           refine ⟨.x0 false (i : Int), by simp [h1, h2, h3, h4, h6]; done, rfl, hno ?_⟩
           rw [hk]
           simp
           omega)
  · refine ⟨.x1 (nm.size : Int), ?_, fun j h1 h2 => by omega⟩
    show stp66a nm false (nm.size : Int) = _
    unfold stp66a
    rw [lt_false]; rfl
theorem w86_eq (a b c : Int) : g86 a b c = true ∧ w86_0 a b c = (decide (b ≤ a) && decide (a ≤ c)) := by
  unfold g86 w86_0 t86
  by_cases h : a ≥ b
  · simp [h, Tr.g, Tr.val]
  · simp [h, Tr.g, Tr.val]
theorem w57_eq (a b c : Int) : g57 a b c = true ∧ w57_0 a b c = (decide (b ≤ a) && decide (a ≤ c)) := by
  unfold g57 w57_0 t57
  by_cases h : a ≥ b
  · simp [h, Tr.g, Tr.val]
  · simp [h, Tr.g, Tr.val]
/-- What a name is. -/
theorem name_eq (nm : ByteArray) : g66 nm = true ∧ w66_0 nm = w61_0 nm := by
  obtain ⟨e1, e2⟩ := w86_eq (nm.size : Int) 1 16
  rcases Nat.eq_zero_or_pos nm.size with hz | hp
  · have hnil : nm.toList = (⟨#[]⟩ : ByteArray).toList := by
      have : nm.data = #[] := Array.eq_empty_of_size_eq_zero hz
      cases nm
      simp at this
      subst this
      rfl
    have h1 : (nm.toList == (⟨#[]⟩ : ByteArray).toList) = true := by rw [hnil]; simp
    have h2 : (decide ((1 : Int) ≤ (nm.size : Int)) && decide ((nm.size : Int) ≤ 16)) = false := by
      rw [hz]; rfl
    unfold g66 w66_0 t66 w61_0 t61
    rw [e1, e2, h1, h2]
    exact ⟨rfl, rfl⟩
  · have h1 : (nm.toList == (⟨#[]⟩ : ByteArray).toList) = false := by
      cases hc : (nm.toList == (⟨#[]⟩ : ByteArray).toList) with
      | false => rfl
      | true =>
        exfalso
        have : nm.toList = (⟨#[]⟩ : ByteArray).toList := by simpa using hc
        have hh : nm.toList.length = nm.size := by
          rw [show nm.toList = nm.data.toList from ByteArray.toList_eq nm]
          rfl
        rw [this] at hh
        have h0 : (⟨#[]⟩ : ByteArray).toList.length = 0 := by rw [ByteArray.toList_eq]; rfl
        omega
    by_cases h16 : nm.size ≤ 16
    · have h2 : (decide ((1 : Int) ≤ (nm.size : Int)) && decide ((nm.size : Int) ≤ 16)) = true := by
        rw [Bool.and_eq_true]
        exact ⟨decide_eq_true (by omega), decide_eq_true (by omega)⟩
      have h3 : decide ((nm.size : Int) > 16) = false := decide_eq_false (by omega)
      have hi : inb 0 nm.size = true := by simp [inb, hp]
      obtain ⟨y, hy, hv⟩ := run66_val nm h16
      have hw := w84_eq nm
      have hg := g84_true nm
      unfold g66 w66_0 t66 w61_0 t61
      rw [e1, e2, h1, h2, h3, hi, hg]
      cases decide (((nm.data.toList.getD 0 0).toNat : Int) < 97) with
      | true => exact ⟨rfl, rfl⟩
      | false =>
      cases decide (((nm.data.toList.getD 0 0).toNat : Int) > 122) with
      | true => exact ⟨rfl, rfl⟩
      | false =>
        unfold i66a_0 i66a_1 v66a_0_t2'
        rw [hy]
        cases y with
        | x0 b m =>
          have : w84_0 nm = true := hw.2 hv.2
          rw [this]
          exact ⟨rfl, hv.1⟩
        | x1 m =>
          have : w84_0 nm = false := by
            cases hx : w84_0 nm with
            | false => rfl
            | true => exact absurd hv (hw.1 hx)
          rw [this]
          exact ⟨rfl, rfl⟩
    · have h2 : (decide ((1 : Int) ≤ (nm.size : Int)) && decide ((nm.size : Int) ≤ 16)) = false := by
        rw [Bool.and_eq_false_iff]
        exact .inr (decide_eq_false (by omega))
      have h3 : decide ((nm.size : Int) > 16) = true := decide_eq_true (by omega)
      unfold g66 w66_0 t66 w61_0 t61
      rw [e1, e2, h1, h2, h3]
      exact ⟨rfl, rfl⟩
end Go.Proofs.Ytgifjphinkbcaaa

set_option maxRecDepth 100000
set_option linter.unusedVariables false
namespace Go.Proofs.Ytgifjphinkbcaaa
open Go Go.Ev

/-! ### ref.Check -/
noncomputable def c33 : Code := match Try.f33.body with | some c => c | _ => .skip
noncomputable def lp33a : Code := loopAt c33 [true, true, true, false, true, false]
noncomputable def s33a (ra : Int) (rb : Int) (rc : Int) (ps : List (List AV)) (t2 : Int) (t3 : Int) : St :=
  { t := [(1, .rp [.int .i64, .int .i64, .int .i64, .sl 31] [.i .i64 ra, .i .i64 rb, .i .i64 rc, .rs 31 ps] 0), (2, .i .i64 t2), (3, .i .i64 t3)], m := [], nx := 0, nt := 126 }
noncomputable def lp33aa : Code := loopAt c33 [true, true, true, false, true, false, false, true, false, false, true, true, false, true, false]
noncomputable def s33aa (ra : Int) (rb : Int) (rc : Int) (ps : List (List AV)) (t2 : Int) (t3 : Int) (t5 : Int) (m10_0 : ByteArray) (m10_1 : Int) (m10_2 : Int) (m10_3 : Int) (m10_4 : Int) : St :=
  { t := [(1, .rp [.int .i64, .int .i64, .int .i64, .sl 31] [.i .i64 ra, .i .i64 rb, .i .i64 rc, .rs 31 ps] 0), (2, .i .i64 t2), (3, .i .i64 t3), (4, .p 10 0 0), (5, .i .i64 t5)], m := [(0, .dead), (1, .dead), (2, .dead), (3, .dead), (4, .dead), (5, .dead), (6, .dead), (7, .dead), (8, .dead), (9, .dead), (10, .row 31 [[.s m10_0, .i .i64 m10_1, .i .i64 m10_2, .i .i64 m10_3, .i .i64 m10_4]])], nx := 11, nt := 126 }
structure S33aa where
  t5 : Int
inductive T33aa where
  | x0 (t2' : Int) (t5 : Int)
  | x1 (t5 : Int)
noncomputable def stp33aa (ra : Int) (rb : Int) (rc : Int) (ps : List (List AV)) (t2 : Int) (t3 : Int) (m10_0 : ByteArray) (m10_1 : Int) (m10_2 : Int) (m10_3 : Int) (m10_4 : Int) (t5 : Int) : Lp S33aa T33aa :=
  cond (decide (t5 < t3)) (cond (inb t5 ps.length) (cond ((fS (ps.getD t5.toNat []) 0).toList == m10_0.toList) (.out (.x0 6 t5)) (.go ⟨IntKind.i64.wrap (t5 + 1)⟩)) (.bad)) (.out (.x1 t5))
noncomputable def o33aa_0 (ra : Int) (rb : Int) (rc : Int) (ps : List (List AV)) (t2 : Int) (t3 : Int) (m10_0 : ByteArray) (m10_1 : Int) (m10_2 : Int) (m10_3 : Int) (m10_4 : Int) (t2' : Int) (t5 : Int) : St :=
  { t := [(1, .rp [.int .i64, .int .i64, .int .i64, .sl 31] [.i .i64 ra, .i .i64 rb, .i .i64 rc, .rs 31 ps] 0), (2, .i .i64 t2'), (3, .i .i64 t3), (4, .p 10 0 0), (5, .i .i64 t5)], m := [(0, .dead), (1, .dead), (2, .dead), (3, .dead), (4, .dead), (5, .dead), (6, .dead), (7, .dead), (8, .dead), (9, .dead), (10, .row 31 [[.s m10_0, .i .i64 m10_1, .i .i64 m10_2, .i .i64 m10_3, .i .i64 m10_4]])], nx := 11, nt := 126 }
noncomputable def o33aa_1 (ra : Int) (rb : Int) (rc : Int) (ps : List (List AV)) (t2 : Int) (t3 : Int) (m10_0 : ByteArray) (m10_1 : Int) (m10_2 : Int) (m10_3 : Int) (m10_4 : Int) (t5 : Int) : St :=
  { t := [(1, .rp [.int .i64, .int .i64, .int .i64, .sl 31] [.i .i64 ra, .i .i64 rb, .i .i64 rc, .rs 31 ps] 0), (2, .i .i64 t2), (3, .i .i64 t3), (4, .p 10 0 0), (5, .i .i64 t5)], m := [(0, .dead), (1, .dead), (2, .dead), (3, .dead), (4, .dead), (5, .dead), (6, .dead), (7, .dead), (8, .dead), (9, .dead), (10, .row 31 [[.s m10_0, .i .i64 m10_1, .i .i64 m10_2, .i .i64 m10_3, .i .i64 m10_4]])], nx := 11, nt := 126 }
noncomputable def ou33aa (ra : Int) (rb : Int) (rc : Int) (ps : List (List AV)) (t2 : Int) (t3 : Int) (m10_0 : ByteArray) (m10_1 : Int) (m10_2 : Int) (m10_3 : Int) (m10_4 : Int) : T33aa → Ex × St
  | .x0 t2' t5 => (.ret, o33aa_0 ra rb rc ps t2 t3 m10_0 m10_1 m10_2 m10_3 m10_4 t2' t5)
  | .x1 t5 => (.ext 2, o33aa_1 ra rb rc ps t2 t3 m10_0 m10_1 m10_2 m10_3 m10_4 t5)
noncomputable def r33aa (ra : Int) (rb : Int) (rc : Int) (ps : List (List AV)) (t2 : Int) (t3 : Int) (m10_0 : ByteArray) (m10_1 : Int) (m10_2 : Int) (m10_3 : Int) (m10_4 : Int) (t5 : Int) : Option T33aa := run (fun x => stp33aa ra rb rc ps t2 t3 m10_0 m10_1 m10_2 m10_3 m10_4 x.t5) (⟨t5⟩ : S33aa)
noncomputable def i33aa_0 (ra : Int) (rb : Int) (rc : Int) (ps : List (List AV)) (t2 : Int) (t3 : Int) (m10_0 : ByteArray) (m10_1 : Int) (m10_2 : Int) (m10_3 : Int) (m10_4 : Int) (t5 : Int) : Bool := match r33aa ra rb rc ps t2 t3 m10_0 m10_1 m10_2 m10_3 m10_4 t5 with
  | some (.x0 _ _) => true
  | _ => false
noncomputable def v33aa_0_t2' (ra : Int) (rb : Int) (rc : Int) (ps : List (List AV)) (t2 : Int) (t3 : Int) (m10_0 : ByteArray) (m10_1 : Int) (m10_2 : Int) (m10_3 : Int) (m10_4 : Int) (t5 : Int) : Int := match r33aa ra rb rc ps t2 t3 m10_0 m10_1 m10_2 m10_3 m10_4 t5 with
  | some (.x0 t2' _) => t2'
  | _ => default
noncomputable def v33aa_0_t5 (ra : Int) (rb : Int) (rc : Int) (ps : List (List AV)) (t2 : Int) (t3 : Int) (m10_0 : ByteArray) (m10_1 : Int) (m10_2 : Int) (m10_3 : Int) (m10_4 : Int) (t5 : Int) : Int := match r33aa ra rb rc ps t2 t3 m10_0 m10_1 m10_2 m10_3 m10_4 t5 with
  | some (.x0 _ t5) => t5
  | _ => default
noncomputable def i33aa_1 (ra : Int) (rb : Int) (rc : Int) (ps : List (List AV)) (t2 : Int) (t3 : Int) (m10_0 : ByteArray) (m10_1 : Int) (m10_2 : Int) (m10_3 : Int) (m10_4 : Int) (t5 : Int) : Bool := match r33aa ra rb rc ps t2 t3 m10_0 m10_1 m10_2 m10_3 m10_4 t5 with
  | some (.x1 _) => true
  | _ => false
noncomputable def v33aa_1_t5 (ra : Int) (rb : Int) (rc : Int) (ps : List (List AV)) (t2 : Int) (t3 : Int) (m10_0 : ByteArray) (m10_1 : Int) (m10_2 : Int) (m10_3 : Int) (m10_4 : Int) (t5 : Int) : Int := match r33aa ra rb rc ps t2 t3 m10_0 m10_1 m10_2 m10_3 m10_4 t5 with
  | some (.x1 t5) => t5
  | _ => default
noncomputable def l33aa (st : St) : Option (List (Bool × Ex × St)) := match normW Try.prog [(1, none), (2, none), (3, none), (4, none), (5, none)] 11 st with
  | some ([.rp [.int .i64, .int .i64, .int .i64, .sl 31] [.i .i64 ra, .i .i64 rb, .i .i64 rc, .rs 31 ps] 0, .i .i64 t2, .i .i64 t3, .p 10 0 0, .i .i64 t5], [(0, .dead), (1, .dead), (2, .dead), (3, .dead), (4, .dead), (5, .dead), (6, .dead), (7, .dead), (8, .dead), (9, .dead), (10, .row 31 [[.s m10_0, .i .i64 m10_1, .i .i64 m10_2, .i .i64 m10_3, .i .i64 m10_4]])], 11, 126) => some [(i33aa_0 ra rb rc ps t2 t3 m10_0 m10_1 m10_2 m10_3 m10_4 t5, .ret, o33aa_0 ra rb rc ps t2 t3 m10_0 m10_1 m10_2 m10_3 m10_4 (v33aa_0_t2' ra rb rc ps t2 t3 m10_0 m10_1 m10_2 m10_3 m10_4 t5) (v33aa_0_t5 ra rb rc ps t2 t3 m10_0 m10_1 m10_2 m10_3 m10_4 t5)), (i33aa_1 ra rb rc ps t2 t3 m10_0 m10_1 m10_2 m10_3 m10_4 t5, .ext 2, o33aa_1 ra rb rc ps t2 t3 m10_0 m10_1 m10_2 m10_3 m10_4 (v33aa_1_t5 ra rb rc ps t2 t3 m10_0 m10_1 m10_2 m10_3 m10_4 t5))]
  | _ => none
structure S33a where
  t3 : Int
inductive T33a where
  | x0 (t2' : Int) (t3 : Int)
  | x1 (t3 : Int)
noncomputable def stp33a (ra : Int) (rb : Int) (rc : Int) (ps : List (List AV)) (t2 : Int) (t3 : Int) : Lp S33a T33a :=
  cond (decide (t3 < (↑ps.length : Int))) (cond (inb t3 ps.length) (cond (g66 (fS (ps.getD t3.toNat []) 0)) (cond (!w66_0 (fS (ps.getD t3.toNat []) 0)) (.out (.x0 5 t3)) (cond (i33aa_0 ra rb rc ps t2 t3 (fS (ps.getD t3.toNat []) 0) (fI (ps.getD t3.toNat []) 1) (fI (ps.getD t3.toNat []) 2) (fI (ps.getD t3.toNat []) 3) (fI (ps.getD t3.toNat []) 4) 0) (.out (.x0 (v33aa_0_t2' ra rb rc ps t2 t3 (fS (ps.getD t3.toNat []) 0) (fI (ps.getD t3.toNat []) 1) (fI (ps.getD t3.toNat []) 2) (fI (ps.getD t3.toNat []) 3) (fI (ps.getD t3.toNat []) 4) 0) t3)) (cond (i33aa_1 ra rb rc ps t2 t3 (fS (ps.getD t3.toNat []) 0) (fI (ps.getD t3.toNat []) 1) (fI (ps.getD t3.toNat []) 2) (fI (ps.getD t3.toNat []) 3) (fI (ps.getD t3.toNat []) 4) 0) (cond (g57 (fI (ps.getD t3.toNat []) 1) 1 2000) (cond (!w57_0 (fI (ps.getD t3.toNat []) 1) 1 2000) (.out (.x0 1 t3)) (cond (g57 (fI (ps.getD t3.toNat []) 2) 0 9) (cond (!w57_0 (fI (ps.getD t3.toNat []) 2) 0 9) (.out (.x0 1 t3)) (cond (g57 (fI (ps.getD t3.toNat []) 3) 0 9) (cond (!w57_0 (fI (ps.getD t3.toNat []) 3) 0 9) (.out (.x0 1 t3)) (.go ⟨IntKind.i64.wrap (t3 + 1)⟩)) (.bad))) (.bad))) (.bad)) (.bad)))) (.bad)) (.bad)) (.out (.x1 t3))
noncomputable def o33a_0 (ra : Int) (rb : Int) (rc : Int) (ps : List (List AV)) (t2 : Int) (t2' : Int) (t3 : Int) : St :=
  { t := [(1, .rp [.int .i64, .int .i64, .int .i64, .sl 31] [.i .i64 ra, .i .i64 rb, .i .i64 rc, .rs 31 ps] 0), (2, .i .i64 t2'), (3, .i .i64 t3)], m := [], nx := 0, nt := 126 }
noncomputable def o33a_1 (ra : Int) (rb : Int) (rc : Int) (ps : List (List AV)) (t2 : Int) (t3 : Int) : St :=
  { t := [(1, .rp [.int .i64, .int .i64, .int .i64, .sl 31] [.i .i64 ra, .i .i64 rb, .i .i64 rc, .rs 31 ps] 0), (2, .i .i64 t2), (3, .i .i64 t3)], m := [], nx := 0, nt := 126 }
noncomputable def ou33a (ra : Int) (rb : Int) (rc : Int) (ps : List (List AV)) (t2 : Int) : T33a → Ex × St
  | .x0 t2' t3 => (.ret, o33a_0 ra rb rc ps t2 t2' t3)
  | .x1 t3 => (.ext 0, o33a_1 ra rb rc ps t2 t3)
noncomputable def r33a (ra : Int) (rb : Int) (rc : Int) (ps : List (List AV)) (t2 : Int) (t3 : Int) : Option T33a := run (fun x => stp33a ra rb rc ps t2 x.t3) (⟨t3⟩ : S33a)
noncomputable def i33a_0 (ra : Int) (rb : Int) (rc : Int) (ps : List (List AV)) (t2 : Int) (t3 : Int) : Bool := match r33a ra rb rc ps t2 t3 with
  | some (.x0 _ _) => true
  | _ => false
noncomputable def v33a_0_t2' (ra : Int) (rb : Int) (rc : Int) (ps : List (List AV)) (t2 : Int) (t3 : Int) : Int := match r33a ra rb rc ps t2 t3 with
  | some (.x0 t2' _) => t2'
  | _ => default
noncomputable def v33a_0_t3 (ra : Int) (rb : Int) (rc : Int) (ps : List (List AV)) (t2 : Int) (t3 : Int) : Int := match r33a ra rb rc ps t2 t3 with
  | some (.x0 _ t3) => t3
  | _ => default
noncomputable def i33a_1 (ra : Int) (rb : Int) (rc : Int) (ps : List (List AV)) (t2 : Int) (t3 : Int) : Bool := match r33a ra rb rc ps t2 t3 with
  | some (.x1 _) => true
  | _ => false
noncomputable def v33a_1_t3 (ra : Int) (rb : Int) (rc : Int) (ps : List (List AV)) (t2 : Int) (t3 : Int) : Int := match r33a ra rb rc ps t2 t3 with
  | some (.x1 t3) => t3
  | _ => default
noncomputable def l33a (st : St) : Option (List (Bool × Ex × St)) := match normW Try.prog [(1, none), (2, none), (3, none)] 0 st with
  | some ([.rp [.int .i64, .int .i64, .int .i64, .sl 31] [.i .i64 ra, .i .i64 rb, .i .i64 rc, .rs 31 ps] 0, .i .i64 t2, .i .i64 t3], [], 0, 126) => some [(i33a_0 ra rb rc ps t2 t3, .ret, o33a_0 ra rb rc ps t2 (v33a_0_t2' ra rb rc ps t2 t3) (v33a_0_t3 ra rb rc ps t2 t3)), (i33a_1 ra rb rc ps t2 t3, .ext 0, o33a_1 ra rb rc ps t2 (v33a_1_t3 ra rb rc ps t2 t3))]
  | _ => none
noncomputable def lp33b : Code := loopAt c33 [true, true, true, true, false, true, false]
noncomputable def s33b (ra : Int) (rb : Int) (rc : Int) (ps : List (List AV)) (t2 : Int) (t6 : Int) : St :=
  { t := [(1, .rp [.int .i64, .int .i64, .int .i64, .sl 31] [.i .i64 ra, .i .i64 rb, .i .i64 rc, .rs 31 ps] 0), (2, .i .i64 t2), (6, .i .i64 t6)], m := [], nx := 0, nt := 126 }
structure S33b where
  t6 : Int
inductive T33b where
  | x0 (t2' : Int) (t6 : Int)
  | x1 (t6 : Int)
noncomputable def stp33b (ra : Int) (rb : Int) (rc : Int) (ps : List (List AV)) (t2 : Int) (t6 : Int) : Lp S33b T33b :=
  cond (decide (t6 < (↑ps.length : Int))) (cond (inb t6 ps.length) (cond (g57 (fI (ps.getD t6.toNat []) 4) 0 (IntKind.i64.wrap ((↑ps.length : Int) - 1))) (cond (!w57_0 (fI (ps.getD t6.toNat []) 4) 0 (IntKind.i64.wrap ((↑ps.length : Int) - 1))) (.out (.x0 7 t6)) (cond (inb (fI (ps.getD t6.toNat []) 4) ps.length) (cond (fI (ps.getD (fI (ps.getD t6.toNat []) 4).toNat []) 4 != t6) (.out (.x0 10 t6)) (cond (fI (ps.getD (fI (ps.getD t6.toNat []) 4).toNat []) 1 != fI (ps.getD t6.toNat []) 1) (.out (.x0 10 t6)) (cond (fI (ps.getD (fI (ps.getD t6.toNat []) 4).toNat []) 2 != fI (ps.getD t6.toNat []) 3) (.out (.x0 10 t6)) (cond (fI (ps.getD (fI (ps.getD t6.toNat []) 4).toNat []) 3 != fI (ps.getD t6.toNat []) 2) (.out (.x0 10 t6)) (.go ⟨IntKind.i64.wrap (t6 + 1)⟩))))) (.bad))) (.bad)) (.bad)) (.out (.x1 t6))
noncomputable def o33b_0 (ra : Int) (rb : Int) (rc : Int) (ps : List (List AV)) (t2 : Int) (t2' : Int) (t6 : Int) : St :=
  { t := [(1, .rp [.int .i64, .int .i64, .int .i64, .sl 31] [.i .i64 ra, .i .i64 rb, .i .i64 rc, .rs 31 ps] 0), (2, .i .i64 t2'), (6, .i .i64 t6)], m := [], nx := 0, nt := 126 }
noncomputable def o33b_1 (ra : Int) (rb : Int) (rc : Int) (ps : List (List AV)) (t2 : Int) (t6 : Int) : St :=
  { t := [(1, .rp [.int .i64, .int .i64, .int .i64, .sl 31] [.i .i64 ra, .i .i64 rb, .i .i64 rc, .rs 31 ps] 0), (2, .i .i64 t2), (6, .i .i64 t6)], m := [], nx := 0, nt := 126 }
noncomputable def ou33b (ra : Int) (rb : Int) (rc : Int) (ps : List (List AV)) (t2 : Int) : T33b → Ex × St
  | .x0 t2' t6 => (.ret, o33b_0 ra rb rc ps t2 t2' t6)
  | .x1 t6 => (.ext 4, o33b_1 ra rb rc ps t2 t6)
noncomputable def r33b (ra : Int) (rb : Int) (rc : Int) (ps : List (List AV)) (t2 : Int) (t6 : Int) : Option T33b := run (fun x => stp33b ra rb rc ps t2 x.t6) (⟨t6⟩ : S33b)
noncomputable def i33b_0 (ra : Int) (rb : Int) (rc : Int) (ps : List (List AV)) (t2 : Int) (t6 : Int) : Bool := match r33b ra rb rc ps t2 t6 with
  | some (.x0 _ _) => true
  | _ => false
noncomputable def v33b_0_t2' (ra : Int) (rb : Int) (rc : Int) (ps : List (List AV)) (t2 : Int) (t6 : Int) : Int := match r33b ra rb rc ps t2 t6 with
  | some (.x0 t2' _) => t2'
  | _ => default
noncomputable def v33b_0_t6 (ra : Int) (rb : Int) (rc : Int) (ps : List (List AV)) (t2 : Int) (t6 : Int) : Int := match r33b ra rb rc ps t2 t6 with
  | some (.x0 _ t6) => t6
  | _ => default
noncomputable def i33b_1 (ra : Int) (rb : Int) (rc : Int) (ps : List (List AV)) (t2 : Int) (t6 : Int) : Bool := match r33b ra rb rc ps t2 t6 with
  | some (.x1 _) => true
  | _ => false
noncomputable def v33b_1_t6 (ra : Int) (rb : Int) (rc : Int) (ps : List (List AV)) (t2 : Int) (t6 : Int) : Int := match r33b ra rb rc ps t2 t6 with
  | some (.x1 t6) => t6
  | _ => default
noncomputable def l33b (st : St) : Option (List (Bool × Ex × St)) := match normW Try.prog [(1, none), (2, none), (6, none)] 0 st with
  | some ([.rp [.int .i64, .int .i64, .int .i64, .sl 31] [.i .i64 ra, .i .i64 rb, .i .i64 rc, .rs 31 ps] 0, .i .i64 t2, .i .i64 t6], [], 0, 126) => some [(i33b_0 ra rb rc ps t2 t6, .ret, o33b_0 ra rb rc ps t2 (v33b_0_t2' ra rb rc ps t2 t6) (v33b_0_t6 ra rb rc ps t2 t6)), (i33b_1 ra rb rc ps t2 t6, .ext 4, o33b_1 ra rb rc ps t2 (v33b_1_t6 ra rb rc ps t2 t6))]
  | _ => none
noncomputable def L33 : LSpec := fun p st => match p with
  | [false, true, false, true, true, false, false, true, false, false, true, false, true, true, true] => l33aa st
  | [false, true, false, true, true, true] => l33a st
  | [false, true, false, true, true, true, true] => l33b st
  | _ => none
theorem is33aa_0 (ra : Int) (rb : Int) (rc : Int) (ps : List (List AV)) (t2 : Int) (t3 : Int) (m10_0 : ByteArray) (m10_1 : Int) (m10_2 : Int) (m10_3 : Int) (m10_4 : Int) (t5 : Int) (h : i33aa_0 ra rb rc ps t2 t3 m10_0 m10_1 m10_2 m10_3 m10_4 t5 = true) : r33aa ra rb rc ps t2 t3 m10_0 m10_1 m10_2 m10_3 m10_4 t5 = some (.x0 (v33aa_0_t2' ra rb rc ps t2 t3 m10_0 m10_1 m10_2 m10_3 m10_4 t5) (v33aa_0_t5 ra rb rc ps t2 t3 m10_0 m10_1 m10_2 m10_3 m10_4 t5)) := by
  unfold i33aa_0 at h
  unfold v33aa_0_t2' v33aa_0_t5
  generalize r33aa ra rb rc ps t2 t3 m10_0 m10_1 m10_2 m10_3 m10_4 t5 = r at h ⊢
  rcases r with _ | y
  · cases h
  · cases y <;> first | rfl | cases h
theorem is33aa_1 (ra : Int) (rb : Int) (rc : Int) (ps : List (List AV)) (t2 : Int) (t3 : Int) (m10_0 : ByteArray) (m10_1 : Int) (m10_2 : Int) (m10_3 : Int) (m10_4 : Int) (t5 : Int) (h : i33aa_1 ra rb rc ps t2 t3 m10_0 m10_1 m10_2 m10_3 m10_4 t5 = true) : r33aa ra rb rc ps t2 t3 m10_0 m10_1 m10_2 m10_3 m10_4 t5 = some (.x1 (v33aa_1_t5 ra rb rc ps t2 t3 m10_0 m10_1 m10_2 m10_3 m10_4 t5)) := by
  unfold i33aa_1 at h
  unfold v33aa_1_t5
  generalize r33aa ra rb rc ps t2 t3 m10_0 m10_1 m10_2 m10_3 m10_4 t5 = r at h ⊢
  rcases r with _ | y
  · cases h
  · cases y <;> first | rfl | cases h
theorem round33aa (ra : Int) (rb : Int) (rc : Int) (ps : List (List AV)) (t2 : Int) (t3 : Int) (t5 : Int) (m10_0 : ByteArray) (m10_1 : Int) (m10_2 : Int) (m10_3 : Int) (m10_4 : Int) : round Try.prog Se (ro 33) L33 lp33aa [false, true, false, true, true, false, false, true, false, false, true, false, true, true, true] [(1, none), (2, none), (3, none), (4, none), (5, none)] 11 (s33aa ra rb rc ps t2 t3 t5 m10_0 m10_1 m10_2 m10_3 m10_4) =
    cond (decide (t5 < t3)) (cond (inb t5 ps.length) (cond ((fS (ps.getD t5.toNat []) 0).toList == m10_0.toList) (some (.ret, o33aa_0 ra rb rc ps t2 t3 m10_0 m10_1 m10_2 m10_3 m10_4 6 t5)) (some (.nrm, s33aa ra rb rc ps t2 t3 (IntKind.i64.wrap (t5 + 1)) m10_0 m10_1 m10_2 m10_3 m10_4))) (none)) (some (.ext 2, o33aa_1 ra rb rc ps t2 t3 m10_0 m10_1 m10_2 m10_3 m10_4 t5)) := by kernel_rfl
theorem rnd33aa (ra : Int) (rb : Int) (rc : Int) (ps : List (List AV)) (t2 : Int) (t3 : Int) (m10_0 : ByteArray) (m10_1 : Int) (m10_2 : Int) (m10_3 : Int) (m10_4 : Int) (x : S33aa) : round Try.prog Se (ro 33) L33 lp33aa [false, true, false, true, true, false, false, true, false, false, true, false, true, true, true] [(1, none), (2, none), (3, none), (4, none), (5, none)] 11 ((fun x => s33aa ra rb rc ps t2 t3 x.t5 m10_0 m10_1 m10_2 m10_3 m10_4) x) = toR (fun x => s33aa ra rb rc ps t2 t3 x.t5 m10_0 m10_1 m10_2 m10_3 m10_4) (ou33aa ra rb rc ps t2 t3 m10_0 m10_1 m10_2 m10_3 m10_4) (stp33aa ra rb rc ps t2 t3 m10_0 m10_1 m10_2 m10_3 m10_4 x.t5) := by
  refine (round33aa _ _ _ _ _ _ _ _ _ _ _ _ ).trans ?_
  unfold stp33aa
  simp only [toR_cond]
  rfl
theorem lok33aa {st : St} {outs : List (Bool × Ex × St)} {e : Ex} {s : St} (hl : l33aa st = some outs) (hch : Chosen outs e s) :
    ∃ keep nb, 0 ≤ nb ∧ LB Try.prog Se (ro 33) L33 lp33aa [false, true, false, true, true, false, false, true, false, false, true, false, true, true, true] keep nb st e s := by
  unfold l33aa at hl
  split at hl
  · rename_i ra rb rc ps t2 t3 t5 m10_0 m10_1 m10_2 m10_3 m10_4 hno
    cases hl
    have hno := normW_norm hno
    refine ⟨_, _, ?_, .enter hno ?_⟩
    · decide
    have main := fun y h => LB_run (x := (⟨t5⟩ : S33aa)) (y := y) (nb := 11) (fun y => by cases y <;> simp [ou33aa]) (rnd33aa ra rb rc ps t2 t3 m10_0 m10_1 m10_2 m10_3 m10_4) h
    obtain ⟨x, hx, hg, rfl, rfl⟩ := chosen_any hch
    simp only [List.mem_cons, List.not_mem_nil, or_false] at hx
    rcases hx with rfl | rfl
    · exact main _ (is33aa_0 ra rb rc ps t2 t3 m10_0 m10_1 m10_2 m10_3 m10_4 t5 hg)
    · exact main _ (is33aa_1 ra rb rc ps t2 t3 m10_0 m10_1 m10_2 m10_3 m10_4 t5 hg)
  · cases hl
theorem is33a_0 (ra : Int) (rb : Int) (rc : Int) (ps : List (List AV)) (t2 : Int) (t3 : Int) (h : i33a_0 ra rb rc ps t2 t3 = true) : r33a ra rb rc ps t2 t3 = some (.x0 (v33a_0_t2' ra rb rc ps t2 t3) (v33a_0_t3 ra rb rc ps t2 t3)) := by
  unfold i33a_0 at h
  unfold v33a_0_t2' v33a_0_t3
  generalize r33a ra rb rc ps t2 t3 = r at h ⊢
  rcases r with _ | y
  · cases h
  · cases y <;> first | rfl | cases h
theorem is33a_1 (ra : Int) (rb : Int) (rc : Int) (ps : List (List AV)) (t2 : Int) (t3 : Int) (h : i33a_1 ra rb rc ps t2 t3 = true) : r33a ra rb rc ps t2 t3 = some (.x1 (v33a_1_t3 ra rb rc ps t2 t3)) := by
  unfold i33a_1 at h
  unfold v33a_1_t3
  generalize r33a ra rb rc ps t2 t3 = r at h ⊢
  rcases r with _ | y
  · cases h
  · cases y <;> first | rfl | cases h
theorem round33a (ra : Int) (rb : Int) (rc : Int) (ps : List (List AV)) (t2 : Int) (t3 : Int) : round Try.prog Se (ro 33) L33 lp33a [false, true, false, true, true, true] [(1, none), (2, none), (3, none)] 0 (s33a ra rb rc ps t2 t3) =
    cond (decide (t3 < (↑ps.length : Int))) (cond (inb t3 ps.length) (cond (g66 (fS (ps.getD t3.toNat []) 0)) (cond (!w66_0 (fS (ps.getD t3.toNat []) 0)) (some (.ret, o33a_0 ra rb rc ps t2 5 t3)) (cond (i33aa_0 ra rb rc ps t2 t3 (fS (ps.getD t3.toNat []) 0) (fI (ps.getD t3.toNat []) 1) (fI (ps.getD t3.toNat []) 2) (fI (ps.getD t3.toNat []) 3) (fI (ps.getD t3.toNat []) 4) 0) (some (.ret, o33a_0 ra rb rc ps t2 (v33aa_0_t2' ra rb rc ps t2 t3 (fS (ps.getD t3.toNat []) 0) (fI (ps.getD t3.toNat []) 1) (fI (ps.getD t3.toNat []) 2) (fI (ps.getD t3.toNat []) 3) (fI (ps.getD t3.toNat []) 4) 0) t3)) (cond (i33aa_1 ra rb rc ps t2 t3 (fS (ps.getD t3.toNat []) 0) (fI (ps.getD t3.toNat []) 1) (fI (ps.getD t3.toNat []) 2) (fI (ps.getD t3.toNat []) 3) (fI (ps.getD t3.toNat []) 4) 0) (cond (g57 (fI (ps.getD t3.toNat []) 1) 1 2000) (cond (!w57_0 (fI (ps.getD t3.toNat []) 1) 1 2000) (some (.ret, o33a_0 ra rb rc ps t2 1 t3)) (cond (g57 (fI (ps.getD t3.toNat []) 2) 0 9) (cond (!w57_0 (fI (ps.getD t3.toNat []) 2) 0 9) (some (.ret, o33a_0 ra rb rc ps t2 1 t3)) (cond (g57 (fI (ps.getD t3.toNat []) 3) 0 9) (cond (!w57_0 (fI (ps.getD t3.toNat []) 3) 0 9) (some (.ret, o33a_0 ra rb rc ps t2 1 t3)) (some (.nrm, s33a ra rb rc ps t2 (IntKind.i64.wrap (t3 + 1))))) (none))) (none))) (none)) (none)))) (none)) (none)) (some (.ext 0, o33a_1 ra rb rc ps t2 t3)) := by kernel_rfl
theorem rnd33a (ra : Int) (rb : Int) (rc : Int) (ps : List (List AV)) (t2 : Int) (x : S33a) : round Try.prog Se (ro 33) L33 lp33a [false, true, false, true, true, true] [(1, none), (2, none), (3, none)] 0 ((fun x => s33a ra rb rc ps t2 x.t3) x) = toR (fun x => s33a ra rb rc ps t2 x.t3) (ou33a ra rb rc ps t2) (stp33a ra rb rc ps t2 x.t3) := by
  refine (round33a _ _ _ _ _ _ ).trans ?_
  unfold stp33a
  simp only [toR_cond]
  rfl
theorem lok33a {st : St} {outs : List (Bool × Ex × St)} {e : Ex} {s : St} (hl : l33a st = some outs) (hch : Chosen outs e s) :
    ∃ keep nb, 0 ≤ nb ∧ LB Try.prog Se (ro 33) L33 lp33a [false, true, false, true, true, true] keep nb st e s := by
  unfold l33a at hl
  split at hl
  · rename_i ra rb rc ps t2 t3 hno
    cases hl
    have hno := normW_norm hno
    refine ⟨_, _, ?_, .enter hno ?_⟩
    · decide
    have main := fun y h => LB_run (x := (⟨t3⟩ : S33a)) (y := y) (nb := 0) (fun y => by cases y <;> simp [ou33a]) (rnd33a ra rb rc ps t2) h
    obtain ⟨x, hx, hg, rfl, rfl⟩ := chosen_any hch
    simp only [List.mem_cons, List.not_mem_nil, or_false] at hx
    rcases hx with rfl | rfl
    · exact main _ (is33a_0 ra rb rc ps t2 t3 hg)
    · exact main _ (is33a_1 ra rb rc ps t2 t3 hg)
  · cases hl
theorem is33b_0 (ra : Int) (rb : Int) (rc : Int) (ps : List (List AV)) (t2 : Int) (t6 : Int) (h : i33b_0 ra rb rc ps t2 t6 = true) : r33b ra rb rc ps t2 t6 = some (.x0 (v33b_0_t2' ra rb rc ps t2 t6) (v33b_0_t6 ra rb rc ps t2 t6)) := by
  unfold i33b_0 at h
  unfold v33b_0_t2' v33b_0_t6
  generalize r33b ra rb rc ps t2 t6 = r at h ⊢
  rcases r with _ | y
  · cases h
  · cases y <;> first | rfl | cases h
theorem is33b_1 (ra : Int) (rb : Int) (rc : Int) (ps : List (List AV)) (t2 : Int) (t6 : Int) (h : i33b_1 ra rb rc ps t2 t6 = true) : r33b ra rb rc ps t2 t6 = some (.x1 (v33b_1_t6 ra rb rc ps t2 t6)) := by
  unfold i33b_1 at h
  unfold v33b_1_t6
  generalize r33b ra rb rc ps t2 t6 = r at h ⊢
  rcases r with _ | y
  · cases h
  · cases y <;> first | rfl | cases h
theorem round33b (ra : Int) (rb : Int) (rc : Int) (ps : List (List AV)) (t2 : Int) (t6 : Int) : round Try.prog Se (ro 33) L33 lp33b [false, true, false, true, true, true, true] [(1, none), (2, none), (6, none)] 0 (s33b ra rb rc ps t2 t6) =
    cond (decide (t6 < (↑ps.length : Int))) (cond (inb t6 ps.length) (cond (g57 (fI (ps.getD t6.toNat []) 4) 0 (IntKind.i64.wrap ((↑ps.length : Int) - 1))) (cond (!w57_0 (fI (ps.getD t6.toNat []) 4) 0 (IntKind.i64.wrap ((↑ps.length : Int) - 1))) (some (.ret, o33b_0 ra rb rc ps t2 7 t6)) (cond (inb (fI (ps.getD t6.toNat []) 4) ps.length) (cond (fI (ps.getD (fI (ps.getD t6.toNat []) 4).toNat []) 4 != t6) (some (.ret, o33b_0 ra rb rc ps t2 10 t6)) (cond (fI (ps.getD (fI (ps.getD t6.toNat []) 4).toNat []) 1 != fI (ps.getD t6.toNat []) 1) (some (.ret, o33b_0 ra rb rc ps t2 10 t6)) (cond (fI (ps.getD (fI (ps.getD t6.toNat []) 4).toNat []) 2 != fI (ps.getD t6.toNat []) 3) (some (.ret, o33b_0 ra rb rc ps t2 10 t6)) (cond (fI (ps.getD (fI (ps.getD t6.toNat []) 4).toNat []) 3 != fI (ps.getD t6.toNat []) 2) (some (.ret, o33b_0 ra rb rc ps t2 10 t6)) (some (.nrm, s33b ra rb rc ps t2 (IntKind.i64.wrap (t6 + 1)))))))) (none))) (none)) (none)) (some (.ext 4, o33b_1 ra rb rc ps t2 t6)) := by kernel_rfl
theorem rnd33b (ra : Int) (rb : Int) (rc : Int) (ps : List (List AV)) (t2 : Int) (x : S33b) : round Try.prog Se (ro 33) L33 lp33b [false, true, false, true, true, true, true] [(1, none), (2, none), (6, none)] 0 ((fun x => s33b ra rb rc ps t2 x.t6) x) = toR (fun x => s33b ra rb rc ps t2 x.t6) (ou33b ra rb rc ps t2) (stp33b ra rb rc ps t2 x.t6) := by
  refine (round33b _ _ _ _ _ _ ).trans ?_
  unfold stp33b
  simp only [toR_cond]
  rfl
theorem lok33b {st : St} {outs : List (Bool × Ex × St)} {e : Ex} {s : St} (hl : l33b st = some outs) (hch : Chosen outs e s) :
    ∃ keep nb, 0 ≤ nb ∧ LB Try.prog Se (ro 33) L33 lp33b [false, true, false, true, true, true, true] keep nb st e s := by
  unfold l33b at hl
  split at hl
  · rename_i ra rb rc ps t2 t6 hno
    cases hl
    have hno := normW_norm hno
    refine ⟨_, _, ?_, .enter hno ?_⟩
    · decide
    have main := fun y h => LB_run (x := (⟨t6⟩ : S33b)) (y := y) (nb := 0) (fun y => by cases y <;> simp [ou33b]) (rnd33b ra rb rc ps t2) h
    obtain ⟨x, hx, hg, rfl, rfl⟩ := chosen_any hch
    simp only [List.mem_cons, List.not_mem_nil, or_false] at hx
    rcases hx with rfl | rfl
    · exact main _ (is33b_0 ra rb rc ps t2 t6 hg)
    · exact main _ (is33b_1 ra rb rc ps t2 t6 hg)
  · cases hl
theorem L33_ok (q : Pl) (c : Code) (hq : locate c33 q.reverse = some (.loop c)) (st : St) (outs : List (Bool × Ex × St)) (e : Ex) (s : St) (hl : L33 q st = some outs) (hch : Chosen outs e s) :
    ∃ keep nb, 0 ≤ nb ∧ LB Try.prog Se (ro 33) L33 c q keep nb st e s := by
  unfold L33 at hl
  split at hl
  · have : locate c33 ([false, true, false, true, true, false, false, true, false, false, true, false, true, true, true] : Pl).reverse = some (.loop lp33aa) := by kernel_rfl
    rw [this] at hq
    cases hq
    exact lok33aa hl hch
  · have : locate c33 ([false, true, false, true, true, true] : Pl).reverse = some (.loop lp33a) := by kernel_rfl
    rw [this] at hq
    cases hq
    exact lok33a hl hch
  · have : locate c33 ([false, true, false, true, true, true, true] : Pl).reverse = some (.loop lp33b) := by kernel_rfl
    rw [this] at hq
    cases hq
    exact lok33b hl hch
  · cases hl
theorem lok33 : LOK Try.prog Se (ro 33) L33 0 false c33 [] :=
  lok_lo L33_ok c33 [] false (locate_nil _) (by kernel_rfl)
noncomputable def t33 (ra rb rc : Int) (ps : List (List AV)) : Tr ((Int)) :=
  .cn (g57 ra 0 2000) (.cn (!w57_0 ra 0 2000) (.lf (1)) (.cn (g57 rb 0 9) (.cn (!w57_0 rb 0 9) (.lf (1)) (.cn (g57 rc 0 9) (.cn (!w57_0 rc 0 9) (.lf (1)) (.cn (decide ((↑ps.length : Int) > 10)) (.lf (3)) (.cn (i33a_0 ra rb rc ps 0 0) (.lf (v33a_0_t2' ra rb rc ps 0 0)) (.cn (i33a_1 ra rb rc ps 0 0) (.cn (i33b_0 ra rb rc ps 0 0) (.lf (v33b_0_t2' ra rb rc ps 0 0)) (.cn (i33b_1 ra rb rc ps 0 0) (.lf (0)) (.nn))) (.nn))))) (.nn))) (.nn))) (.nn)
noncomputable def g33 (ra rb rc : Int) (ps : List (List AV)) : Bool := (t33 ra rb rc ps).g
noncomputable def w33_0 (ra rb rc : Int) (ps : List (List AV)) : Int := (t33 ra rb rc ps).val
theorem eq33 (ra rb rc : Int) (ps : List (List AV)) : evF Try.prog Se (ro 33) L33 Try.f33 [.agg [.i .i64 ra, .i .i64 rb, .i .i64 rc, .rs 31 ps]] = (t33 ra rb rc ps).opt (fun (x : (Int)) => (.i .i64 x : AV)) := by kernel_rfl
theorem con33 (ra rb rc : Int) (ps : List (List AV)) (h : g33 ra rb rc ps = true) : Con Try.prog 33 [.agg [.i .i64 ra, .i .i64 rb, .i .i64 rc, .rs 31 ps]] [] (.i .i64 (w33_0 ra rb rc ps)) [] :=
  con_of Se_ok mixed Try.func33 (c := c33) rfl (names 33 _ Try.func33) lok33 ((eq33 ra rb rc ps).trans (Tr.sound _ _ h))
noncomputable def e33 (args : List AV) (rows : List Blk) : Option (Bool × AV × List Blk) := match args, rows with
  | [.agg [.i .i64 ra, .i .i64 rb, .i .i64 rc, .rs 31 ps]], [] => some (g33 ra rb rc ps, .i .i64 (w33_0 ra rb rc ps), [])
  | _, _ => none
theorem e33_ok (args : List AV) (rows : List Blk) (pre : Bool) (v : AV) (rows' : List Blk) (h : e33 args rows = some (pre, v, rows')) (hp : pre = true) : Con Try.prog 33 args rows v rows' := by
  unfold e33 at h
  split at h
  · cases h; exact con33 _ _ _ _ hp
  · cases h
-- SPEC 33
end Go.Proofs.Ytgifjphinkbcaaa

set_option maxRecDepth 100000
set_option linter.unusedVariables false
namespace Go.Proofs.Ytgifjphinkbcaaa
open Go Go.Ev
/-! ### Check, and the reference's -/
theorem g55_57 (a b c : Int) : w57_0 a b c = w55_0 a b c := by rw [(w57_eq a b c).2, w55_eq]
def nmAt (ps : List (List AV)) (j : Nat) : ByteArray := fS (ps.getD j []) 0
def seen (ps : List (List AV)) (k : Nat) (nm : ByteArray) : Prop := ∃ j, j < k ∧ (nmAt ps j).toList = nm.toList
theorem ref_seen (ra rb rc t2 : Int) (ps : List (List AV)) (k : Nat) (nm : ByteArray) (a b c d : Int) (hk : k ≤ ps.length) (hl : ps.length ≤ 10) : ∃ y, r33aa ra rb rc ps t2 (k : Int) nm a b c d 0 = some y ∧ (match y with
    | .x0 e _ => e = 6 ∧ seen ps k nm
    | .x1 _ => ¬ seen ps k nm) := by
  unfold r33aa
  refine run_for (S := Unit) k (fun i _ => (⟨(i : Int)⟩ : S33aa)) (fun i _ => ¬ seen ps i nm) (fun i _ (y : T33aa) => match y with
    | .x0 e _ => e = 6 ∧ seen ps k nm
    | .x1 _ => ¬ seen ps k nm) (fun i _ hi hno => ?_) (fun _ hno => ?_) 0 () (Nat.zero_le _) (by rintro ⟨j, h, _⟩; omega)
  · show (∃ s', stp33aa ra rb rc ps t2 (k : Int) nm a b c d (i : Int) = _ ∧ _) ∨ ∃ y, stp33aa ra rb rc ps t2 (k : Int) nm a b c d (i : Int) = _ ∧ _
    unfold stp33aa
    simp only [lt_true hi, inb_true (show i < ps.length by omega), cond_true, Int.toNat_natCast, wrap_succ (show i < 9223372036854775807 by omega)]
    show (∃ s', cond ((nmAt ps i).toList == nm.toList) _ _ = _ ∧ _) ∨ ∃ y, cond ((nmAt ps i).toList == nm.toList) _ _ = _ ∧ _
    cases h : ((nmAt ps i).toList == nm.toList) with
    | true => exact .inr ⟨_, rfl, rfl, i, hi, by simpa using h⟩
    | false =>
      refine .inl ⟨(), rfl, ?_, fun y hy => hy⟩
      rintro ⟨j, hj, he⟩
      rcases Nat.lt_succ_iff_lt_or_eq.1 hj with h' | rfl
      · exact hno ⟨j, h', he⟩
      · rw [he] at h
        simp at h
  · refine ⟨.x1 (k : Int), ?_, hno⟩
    show stp33aa ra rb rc ps t2 (k : Int) nm a b c d (k : Int) = _
    unfold stp33aa
    rw [lt_false]; rfl
theorem simA (ra rb rc : Int) {ps : List (List AV)} (hl : ps.length ≤ 10) : ∃ y y', r29a ra rb rc ps 0 ps (ps.length : Int) 0 [] = some y ∧ r33a ra rb rc ps 0 0 = some y' ∧ (match y, y' with
    | .x0 a _ _, .x0 a' _ => a = a'
    | .x1 _ _, .x1 _ => True
    | _, _ => False) := by
  unfold r29a r33a
  refine run_sim (S := List (AV × AV)) ps.length (fun k m => (⟨(k : Int), m⟩ : S29a)) (fun k m => (⟨(k : Int)⟩ : S33a)) (fun k m => ∀ nm : ByteArray, toB ((mget (AV.s nm) m).getD (AV.b false)) = true ↔ seen ps k nm) (fun (y : T29a) (y' : T33a) => match y, y' with
    | .x0 a _ _, .x0 a' _ => a = a'
    | .x1 _ _, .x1 _ => True
    | _, _ => False) (fun k m hk hi => ?_) (fun m hi => ?_) 0 [] (Nat.zero_le _) (fun nm => ?_)
  · show (∃ s', stp29a ra rb rc ps 0 ps (ps.length : Int) (k : Int) m = _ ∧ stp33a ra rb rc ps 0 (k : Int) = _ ∧ _) ∨ ∃ y y', stp29a ra rb rc ps 0 ps (ps.length : Int) (k : Int) m = _ ∧ stp33a ra rb rc ps 0 (k : Int) = _ ∧ _
    unfold stp29a stp33a
    simp only [lt_true hk, inb_true hk, cond_true, Int.toNat_natCast, wrap_succ (show k < 9223372036854775807 by omega), g61_true, g55_true, (name_eq _).1, (name_eq _).2, (w57_eq _ _ _).1, g55_57]
    have hn : fS (ps.getD k []) 0 = nmAt ps k := rfl
    have hadd : ∀ nm : ByteArray, seen ps (k + 1) nm ↔ (nm.toList = (nmAt ps k).toList ∨ seen ps k nm) := by
      intro nm
      constructor
      · rintro ⟨j, h1, h2⟩
        rcases Nat.lt_succ_iff_lt_or_eq.1 h1 with h' | rfl
        · exact .inr ⟨j, h', h2⟩
        · exact .inl h2.symm
      · rintro (h | ⟨j, h1, h2⟩)
        · exact ⟨k, by omega, h.symm⟩
        · exact ⟨j, by omega, h2⟩
    rw [hn]
    obtain ⟨z, hz, hzv⟩ := ref_seen ra rb rc 0 ps k (nmAt ps k) (fI (ps.getD k []) 1) (fI (ps.getD k []) 2) (fI (ps.getD k []) 3) (fI (ps.getD k []) 4) (by omega) hl
    unfold i33aa_0 i33aa_1 v33aa_0_t2'
    rw [hz]
    have hi' := hi (nmAt ps k)
    have hset : ∀ nm : ByteArray, toB ((mget (AV.s nm) (mset (AV.s (nmAt ps k)) (AV.b true) m)).getD (AV.b false)) = true ↔ seen ps (k + 1) nm := by
      intro nm
      rw [mget_mset_s, hadd]
      by_cases h : nm.toList = (nmAt ps k).toList
      · simp [h, toB]
      · simp only [h, if_false, false_or]
        exact hi nm
    generalize toB ((mget (AV.s (nmAt ps k)) m).getD (AV.b false)) = b at hi'
    cases w61_0 (nmAt ps k) with
    | false => exact .inr ⟨_, _, rfl, rfl, rfl⟩
    | true =>
    cases z with
    | x0 e j =>
      have hb : b = true := hi'.2 hzv.2
      rw [hb, hzv.1]
      exact .inr ⟨_, _, rfl, rfl, rfl⟩
    | x1 j =>
      have hb : b = false := by
        cases b with
        | false => rfl
        | true => exact absurd (hi'.1 rfl) hzv
      rw [hb]
      cases w55_0 (fI (ps.getD k []) 1) 1 2000 with
      | false => exact .inr ⟨_, _, rfl, rfl, rfl⟩
      | true =>
      cases w55_0 (fI (ps.getD k []) 2) 0 9 with
      | false => exact .inr ⟨_, _, rfl, rfl, rfl⟩
      | true =>
      cases w55_0 (fI (ps.getD k []) 3) 0 9 with
      | false => exact .inr ⟨_, _, rfl, rfl, rfl⟩
      | true => exact .inl ⟨_, rfl, rfl, hset⟩
  · refine ⟨.x1 (ps.length : Int) m, .x1 (ps.length : Int), ?_, ?_, trivial⟩
    · exact stepA_end
    · show stp33a ra rb rc ps 0 (ps.length : Int) = _
      unfold stp33a
      rw [lt_false]; rfl
  · constructor
    · intro h; cases h
    · rintro ⟨j, h, _⟩; omega
/-- A piece that is the image of another one. -/
def mirs (ps : List (List AV)) (k : Nat) : Prop := ∃ q : Nat, q < ps.length ∧ fI (ps.getD k []) 4 = (q : Int) ∧ fI (ps.getD q []) 4 = (k : Int) ∧ fI (ps.getD q []) 1 = fI (ps.getD k []) 1 ∧ fI (ps.getD q []) 2 = fI (ps.getD k []) 3 ∧ fI (ps.getD q []) 3 = fI (ps.getD k []) 2
theorem simB (ra rb rc : Int) {ps : List (List AV)} (hl : ps.length ≤ 10) : ∃ y y', r29b ra rb rc ps 0 ps (ps.length : Int) 0 = some y ∧ r33b ra rb rc ps 0 0 = some y' ∧ (match y, y' with
    | .x0 a _, .x0 a' _ => a = a' ∧ a ≠ 0
    | .x1 _, .x1 _ => ∀ k, k < ps.length → mirs ps k
    | _, _ => False) := by
  unfold r29b r33b
  refine run_sim (S := Unit) ps.length (fun k m => (⟨(k : Int)⟩ : S29b)) (fun k m => (⟨(k : Int)⟩ : S33b)) (fun k _ => ∀ j, j < k → mirs ps j) (fun (y : T29b) (y' : T33b) => match y, y' with
    | .x0 a _, .x0 a' _ => a = a' ∧ a ≠ 0
    | .x1 _, .x1 _ => ∀ k, k < ps.length → mirs ps k
    | _, _ => False) (fun k _ hk hm => ?_) (fun _ hm => ?_) 0 () (Nat.zero_le _) (fun j hj => by omega)
  · show (∃ s', stp29b ra rb rc ps 0 ps (ps.length : Int) (k : Int) = _ ∧ stp33b ra rb rc ps 0 (k : Int) = _ ∧ _) ∨ ∃ y y', stp29b ra rb rc ps 0 ps (ps.length : Int) (k : Int) = _ ∧ stp33b ra rb rc ps 0 (k : Int) = _ ∧ _
    unfold stp29b stp33b
    have ew2 : IntKind.i64.wrap ((ps.length : Int) - 1) = (ps.length : Int) - 1 := wrap64 (by omega) (by omega)
    simp only [lt_true hk, inb_true hk, cond_true, Int.toNat_natCast, wrap_succ (show k < 9223372036854775807 by omega), g55_true, (w57_eq _ _ _).1, g55_57, ew2, w55_eq]
    cases h1 : (decide (0 ≤ fI (ps.getD k []) 4) && decide (fI (ps.getD k []) 4 ≤ (ps.length : Int) - 1)) with
    | false => exact .inr ⟨_, _, rfl, rfl, rfl, by decide⟩
    | true =>
      simp only [Bool.and_eq_true, decide_eq_true_eq] at h1
      obtain ⟨q, hq⟩ : ∃ q : Nat, fI (ps.getD k []) 4 = (q : Int) := ⟨(fI (ps.getD k []) 4).toNat, by omega⟩
      have hql : q < ps.length := by omega
      rw [hq]
      simp only [Bool.not_true, cond_false, inb_true hql, cond_true, Int.toNat_natCast]
      have p1 : ∀ (nm : ByteArray) (a b c d : Int), w62_0 nm a b c d = ⟨#[]⟩ ∧ w62_1 nm a b c d = a ∧ w62_2 nm a b c d = c ∧ w62_3 nm a b c d = b ∧ w62_4 nm a b c d = 0 := fun _ _ _ _ _ => ⟨rfl, rfl, rfl, rfl, rfl⟩
      have p2 : ∀ (nm : ByteArray) (a b c d : Int), w63_0 nm a b c d = ⟨#[]⟩ ∧ w63_1 nm a b c d = a ∧ w63_2 nm a b c d = b ∧ w63_3 nm a b c d = c ∧ w63_4 nm a b c d = 0 := fun _ _ _ _ _ => ⟨rfl, rfl, rfl, rfl, rfl⟩
      simp only [p1, p2]
      have hnew : fI (ps.getD q []) 4 = (k : Int) → fI (ps.getD q []) 1 = fI (ps.getD k []) 1 → fI (ps.getD q []) 2 = fI (ps.getD k []) 3 → fI (ps.getD q []) 3 = fI (ps.getD k []) 2 → ∀ j, j < k + 1 → mirs ps j := by
        intro m1 m2 m3 m4 j hj
        rcases Nat.lt_succ_iff_lt_or_eq.1 hj with h' | rfl
        · exact hm j h'
        · exact ⟨q, hql, hq, m1, m2, m3, m4⟩
      generalize fI (ps.getD q []) 4 = x4 at hnew ⊢
      generalize fI (ps.getD q []) 3 = x3 at hnew ⊢
      generalize fI (ps.getD q []) 2 = x2 at hnew ⊢
      generalize fI (ps.getD q []) 1 = x1 at hnew ⊢
      generalize fI (ps.getD k []) 1 = y1 at hnew ⊢
      generalize fI (ps.getD k []) 2 = y2 at hnew ⊢
      generalize fI (ps.getD k []) 3 = y3 at hnew ⊢
      cases b4 : (x4 == (k : Int)) <;> cases b1 : (x1 == y1) <;> cases b2 : (x2 == y3) <;> cases b3 : (x3 == y2)
      all_goals
        first
          | (refine .inl ⟨(), ?_, ?_, hnew (by simpa using b4) (by simpa using b1) (by simpa using b2) (by simpa using b3)⟩ <;> simp [bne, b4, b1, b2, b3] <;> done)
          | (refine .inr ⟨.x0 10 (k : Int), .x0 10 (k : Int), ?_, ?_, rfl, by decide⟩ <;> simp [bne, b4, b1, b2, b3] <;> done)
  · refine ⟨.x1 (ps.length : Int), .x1 (ps.length : Int), stepB_end, ?_, hm⟩
    show stp33b ra rb rc ps 0 (ps.length : Int) = _
    unfold stp33b
    rw [lt_false]; rfl
theorem check_eq (ra rb rc : Int) (ps : List (List AV)) : g33 ra rb rc ps = true ∧ w33_0 ra rb rc ps = w29_0 ra rb rc ps ∧ (w29_0 ra rb rc ps = 0 → ∀ k, k < ps.length → mirs ps k) := by
  unfold g33 w33_0 t33 w29_0 t29
  simp only [g55_true, (w57_eq _ _ _).1, g55_57]
  have no1 : ∀ {P : Prop}, (1 : Int) = 0 → P := fun h => by cases h
  cases w55_0 ra 0 2000 with
  | false => exact ⟨rfl, rfl, fun h => no1 h⟩
  | true =>
  cases w55_0 rb 0 9 with
  | false => exact ⟨rfl, rfl, fun h => no1 h⟩
  | true =>
  cases w55_0 rc 0 9 with
  | false => exact ⟨rfl, rfl, fun h => no1 h⟩
  | true =>
  cases h : decide ((ps.length : Int) > 10) with
  | true => exact ⟨rfl, rfl, fun h => (by cases h)⟩
  | false =>
    have hl : ps.length ≤ 10 := by have := of_decide_eq_false h; omega
    obtain ⟨y, y', hy, hy', hv⟩ := simA ra rb rc hl
    obtain ⟨z, z', hz, hz', hw⟩ := simB ra rb rc hl
    obtain ⟨y2, hy2, _, hy0⟩ := loopA ra rb rc hl
    have e2 : y2 = y := by rw [hy] at hy2; cases hy2; rfl
    subst e2
    unfold i29a_0 i29a_1 i29b_0 i29b_1 v29a_0_t2' v29b_0_t2' i33a_0 i33a_1 i33b_0 i33b_1 v33a_0_t2' v33b_0_t2'
    rw [hy, hy', hz, hz']
    cases y2 with
    | x0 a t m =>
      cases y' with
      | x0 a' t' => exact ⟨rfl, hv.symm, fun h => absurd h (hy0 a t m rfl)⟩
      | x1 t' => exact hv.elim
    | x1 t m =>
      cases y' with
      | x0 a' t' => exact hv.elim
      | x1 t' =>
        cases z with
        | x0 b u =>
          cases z' with
          | x0 b' u' => exact ⟨rfl, hw.1.symm, fun h => absurd h hw.2⟩
          | x1 u' => exact hw.elim
        | x1 u =>
          cases z' with
          | x0 b' u' => exact hw.elim
          | x1 u' => exact ⟨rfl, rfl, fun _ => hw⟩
end Go.Proofs.Ytgifjphinkbcaaa

set_option maxRecDepth 100000
set_option linter.unusedVariables false
namespace Go.Proofs.Ytgifjphinkbcaaa
open Go Go.Ev
noncomputable def Sf : Ev.Spec := insS 33 e33 (insS 29 e29 (Se))
theorem Sf_ok : SpecOK Try.prog Sf := insS_ok e33_ok (insS_ok e29_ok (Se_ok))
end Go.Proofs.Ytgifjphinkbcaaa

set_option maxRecDepth 100000
set_option linter.unusedVariables false
namespace Go.Proofs.Ytgifjphinkbcaaa
open Go Go.Ev

/-! ### counted -/
noncomputable def c50 : Code := match Try.f50.body with | some c => c | _ => .skip
theorem lok50 : LOK Try.prog Sf (ro 50) (fun _ _ => none) 0 false c50 [] :=
  lok_lo (fun _ _ _ _ _ _ _ h _ => by cases h) c50 [] false (locate_nil _) (by kernel_rfl)
noncomputable def t50 (ra rb rc : Int) (ps : List (List AV)) : Tr ((List (List AV)) × (Int)) :=
  .cn (g29 ra rb rc ps) (.cn (w29_0 ra rb rc ps != 0) (.lf ([], w29_0 ra rb rc ps)) (.cn (g81 ra rb rc ps) (.cn (g51 (w81_0 ra rb rc ps) (w52_0 ra rb rc ps) (w52_1 ra rb rc ps)) (.cn (decide (w51_0 (w81_0 ra rb rc ps) (w52_0 ra rb rc ps) (w52_1 ra rb rc ps) > 1000000000000000)) (.lf ([], 3)) (.lf (w81_0 ra rb rc ps, 0))) (.nn)) (.nn))) (.nn)
noncomputable def g50 (ra rb rc : Int) (ps : List (List AV)) : Bool := (t50 ra rb rc ps).g
noncomputable def w50_0 (ra rb rc : Int) (ps : List (List AV)) : List (List AV) := (t50 ra rb rc ps).val.1
noncomputable def w50_1 (ra rb rc : Int) (ps : List (List AV)) : Int := (t50 ra rb rc ps).val.2
noncomputable def a50 (ra rb rc : Int) (ps : List (List AV)) : Tr AV :=
  .cn (g29 ra rb rc ps) (.cn (w29_0 ra rb rc ps != 0) (.lf (.tup [.nl, .i .i64 (w29_0 ra rb rc ps)])) (.cn (g81 ra rb rc ps) (.cn (g51 (w81_0 ra rb rc ps) (w52_0 ra rb rc ps) (w52_1 ra rb rc ps)) (.cn (decide (w51_0 (w81_0 ra rb rc ps) (w52_0 ra rb rc ps) (w52_1 ra rb rc ps) > 1000000000000000)) (.lf (.tup [.nl, .i .i64 3])) (.lf (.tup [.rs 91 (w81_0 ra rb rc ps), .i .i64 0]))) (.nn)) (.nn))) (.nn)
theorem eq50 (ra rb rc : Int) (ps : List (List AV)) : evF Try.prog Sf (ro 50) (fun _ _ => none) Try.f50 [.agg [.i .i64 ra, .i .i64 rb, .i .i64 rc, .rs 31 ps]] = (a50 ra rb rc ps).opt id := by kernel_rfl
theorem wk50 (ra rb rc : Int) (ps : List (List AV)) : (a50 ra rb rc ps).map (wkV [some 91, none]) = (t50 ra rb rc ps).map (fun (x : (List (List AV)) × (Int)) => (.tup [.rs 91 x.1, .i .i64 x.2] : AV)) := by kernel_rfl
theorem con50 (ra rb rc : Int) (ps : List (List AV)) (h : g50 ra rb rc ps = true) : Con Try.prog 50 [.agg [.i .i64 ra, .i .i64 rb, .i .i64 rc, .rs 31 ps]] [] (.tup [.rs 91 (w50_0 ra rb rc ps), .i .i64 (w50_1 ra rb rc ps)]) [] := by
  obtain ⟨v, h1, h2⟩ := Tr.soundW (eq50 ra rb rc ps) (wk50 ra rb rc ps) h
  have := (con_of Sf_ok mixed Try.func50 (c := c50) rfl (names 50 _ Try.func50) lok50 h1).wk [some 91, none]
  rw [h2] at this
  exact this
noncomputable def e50 (args : List AV) (rows : List Blk) : Option (Bool × AV × List Blk) := match args, rows with
  | [.agg [.i .i64 ra, .i .i64 rb, .i .i64 rc, .rs 31 ps]], [] => some (g50 ra rb rc ps, .tup [.rs 91 (w50_0 ra rb rc ps), .i .i64 (w50_1 ra rb rc ps)], [])
  | _, _ => none
theorem e50_ok (args : List AV) (rows : List Blk) (pre : Bool) (v : AV) (rows' : List Blk) (h : e50 args rows = some (pre, v, rows')) (hp : pre = true) : Con Try.prog 50 args rows v rows' := by
  unfold e50 at h
  split at h
  · cases h; exact con50 _ _ _ _ hp
  · cases h
-- SPEC 50
end Go.Proofs.Ytgifjphinkbcaaa

set_option maxRecDepth 100000
set_option linter.unusedVariables false
namespace Go.Proofs.Ytgifjphinkbcaaa
open Go Go.Ev

/-! ### table -/
noncomputable def c87 : Code := match Try.f87.body with | some c => c | _ => .skip
noncomputable def lp87a : Code := loopAt c87 [true, true, true, false, true, false]
noncomputable def s87a (ra : Int) (rb : Int) (rc : Int) (ps : List (List AV)) (t3 : Nat) (t4 : Int) (m5 : List (List AV)) : St :=
  { t := [(1, .rp [.int .i64, .int .i64, .int .i64, .sl 31] [.i .i64 ra, .i .i64 rb, .i .i64 rc, .rs 31 ps] 0), (2, .nl), (3, .sl 5 0 t3), (4, .i .i64 t4)], m := [(0, .dead), (1, .dead), (2, .dead), (3, .dead), (4, .dead), (5, .row 91 m5)], nx := 6, nt := 64 }
noncomputable def lp87aa : Code := loopAt c87 [true, true, true, false, true, false, false, true, false, false, true, false]
noncomputable def s87aa (ra : Int) (rb : Int) (rc : Int) (ps : List (List AV)) (t3 : Nat) (t4 : Int) (t5 : Int) (m5 : List (List AV)) : St :=
  { t := [(1, .rp [.int .i64, .int .i64, .int .i64, .sl 31] [.i .i64 ra, .i .i64 rb, .i .i64 rc, .rs 31 ps] 0), (2, .nl), (3, .sl 5 0 t3), (4, .i .i64 t4), (5, .i .i64 t5)], m := [(0, .dead), (1, .dead), (2, .dead), (3, .dead), (4, .dead), (5, .row 91 m5)], nx := 6, nt := 64 }
structure S87aa where
  t5 : Int
  m5 : List (List AV)
inductive T87aa where
  | x0 (t5 : Int) (m5 : List (List AV))
noncomputable def stp87aa (ra : Int) (rb : Int) (rc : Int) (ps : List (List AV)) (t3 : Nat) (t4 : Int) (t5 : Int) (m5 : List (List AV)) : Lp S87aa T87aa :=
  cond (decide (t5 < (↑ps.length : Int))) (cond (inb t5 ps.length) (cond (decide (fI (ps.getD t5.toNat []) 1 ≤ t4)) (cond (inb t4 t3 && (0 + t4.toNat).blt m5.length) (cond (inb (fI (ps.getD t5.toNat []) 2) 10) (cond (ctsAt (cts Try.prog 91) (0 + (fI (ps.getD t5.toNat []) 2).toNat * 1) (cts Try.prog 3) && (0 + t4.toNat).blt m5.length) (cond (inb (IntKind.i64.wrap (t4 - fI (ps.getD t5.toNat []) 1)) t3 && (0 + (IntKind.i64.wrap (t4 - fI (ps.getD t5.toNat []) 1)).toNat).blt m5.length) (cond (inb (fI (ps.getD t5.toNat []) 3) 10) (cond (ctsAt (cts Try.prog 91) (0 + (fI (ps.getD t5.toNat []) 3).toNat * 1) (cts Try.prog 3) && (0 + (IntKind.i64.wrap (t4 - fI (ps.getD t5.toNat []) 1)).toNat).blt m5.length) (cond (inb t4 t3 && (0 + t4.toNat).blt m5.length) (cond (inb (fI (ps.getD t5.toNat []) 2) 10) (cond (ctsAt (cts Try.prog 91) (0 + (fI (ps.getD t5.toNat []) 2).toNat * 1) (cts Try.prog 3) && (0 + t4.toNat).blt m5.length) (.go ⟨IntKind.i64.wrap (t5 + 1), m5.set (0 + t4.toNat) (setCs (m5.getD (0 + t4.toNat) []) (0 + (fI (ps.getD t5.toNat []) 2).toNat * 1) [AV.i IntKind.i64 (bmin 1000000000000001 (IntKind.i64.wrap (toI ((m5.getD (0 + t4.toNat) []).getD (0 + (fI (ps.getD t5.toNat []) 2).toNat * 1) AV.u) + toI ((m5.getD (0 + (IntKind.i64.wrap (t4 - fI (ps.getD t5.toNat []) 1)).toNat) []).getD (0 + (fI (ps.getD t5.toNat []) 3).toNat * 1) AV.u))))])⟩) (.bad)) (.bad)) (.bad)) (.bad)) (.bad)) (.bad)) (.bad)) (.bad)) (.bad)) (.go ⟨IntKind.i64.wrap (t5 + 1), m5⟩)) (.bad)) (.out (.x0 t5 m5))
noncomputable def o87aa_0 (ra : Int) (rb : Int) (rc : Int) (ps : List (List AV)) (t3 : Nat) (t4 : Int) (t5 : Int) (m5 : List (List AV)) : St :=
  { t := [(1, .rp [.int .i64, .int .i64, .int .i64, .sl 31] [.i .i64 ra, .i .i64 rb, .i .i64 rc, .rs 31 ps] 0), (2, .nl), (3, .sl 5 0 t3), (4, .i .i64 t4), (5, .i .i64 t5)], m := [(0, .dead), (1, .dead), (2, .dead), (3, .dead), (4, .dead), (5, .row 91 m5)], nx := 6, nt := 64 }
noncomputable def ou87aa (ra : Int) (rb : Int) (rc : Int) (ps : List (List AV)) (t3 : Nat) (t4 : Int) : T87aa → Ex × St
  | .x0 t5 m5 => (.ext 2, o87aa_0 ra rb rc ps t3 t4 t5 m5)
noncomputable def r87aa (ra : Int) (rb : Int) (rc : Int) (ps : List (List AV)) (t3 : Nat) (t4 : Int) (t5 : Int) (m5 : List (List AV)) : Option T87aa := run (fun x => stp87aa ra rb rc ps t3 t4 x.t5 x.m5) (⟨t5, m5⟩ : S87aa)
noncomputable def i87aa_0 (ra : Int) (rb : Int) (rc : Int) (ps : List (List AV)) (t3 : Nat) (t4 : Int) (t5 : Int) (m5 : List (List AV)) : Bool := match r87aa ra rb rc ps t3 t4 t5 m5 with
  | some (.x0 _ _) => true
  | _ => false
noncomputable def v87aa_0_t5 (ra : Int) (rb : Int) (rc : Int) (ps : List (List AV)) (t3 : Nat) (t4 : Int) (t5 : Int) (m5 : List (List AV)) : Int := match r87aa ra rb rc ps t3 t4 t5 m5 with
  | some (.x0 t5 _) => t5
  | _ => default
noncomputable def v87aa_0_m5 (ra : Int) (rb : Int) (rc : Int) (ps : List (List AV)) (t3 : Nat) (t4 : Int) (t5 : Int) (m5 : List (List AV)) : List (List AV) := match r87aa ra rb rc ps t3 t4 t5 m5 with
  | some (.x0 _ m5) => m5
  | _ => default
noncomputable def l87aa (st : St) : Option (List (Bool × Ex × St)) := match normW Try.prog [(1, none), (2, none), (3, none), (4, none), (5, none)] 6 st with
  | some ([.rp [.int .i64, .int .i64, .int .i64, .sl 31] [.i .i64 ra, .i .i64 rb, .i .i64 rc, .rs 31 ps] 0, .nl, .sl 5 0 t3, .i .i64 t4, .i .i64 t5], [(0, .dead), (1, .dead), (2, .dead), (3, .dead), (4, .dead), (5, .row 91 m5)], 6, 64) => some [(i87aa_0 ra rb rc ps t3 t4 t5 m5, .ext 2, o87aa_0 ra rb rc ps t3 t4 (v87aa_0_t5 ra rb rc ps t3 t4 t5 m5) (v87aa_0_m5 ra rb rc ps t3 t4 t5 m5))]
  | _ => none
structure S87a where
  t4 : Int
  m5 : List (List AV)
inductive T87a where
  | x0 (t4 : Int) (m5 : List (List AV))
noncomputable def stp87a (ra : Int) (rb : Int) (rc : Int) (ps : List (List AV)) (t3 : Nat) (t4 : Int) (m5 : List (List AV)) : Lp S87a T87a :=
  cond (decide (t4 ≤ ra)) (cond (i87aa_0 ra rb rc ps t3 t4 0 m5) (.go ⟨IntKind.i64.wrap (t4 + 1), v87aa_0_m5 ra rb rc ps t3 t4 0 m5⟩) (.bad)) (.out (.x0 t4 m5))
noncomputable def o87a_0 (ra : Int) (rb : Int) (rc : Int) (ps : List (List AV)) (t3 : Nat) (t4 : Int) (m5 : List (List AV)) : St :=
  { t := [(1, .rp [.int .i64, .int .i64, .int .i64, .sl 31] [.i .i64 ra, .i .i64 rb, .i .i64 rc, .rs 31 ps] 0), (2, .nl), (3, .sl 5 0 t3), (4, .i .i64 t4)], m := [(0, .dead), (1, .dead), (2, .dead), (3, .dead), (4, .dead), (5, .row 91 m5)], nx := 6, nt := 64 }
noncomputable def ou87a (ra : Int) (rb : Int) (rc : Int) (ps : List (List AV)) (t3 : Nat) : T87a → Ex × St
  | .x0 t4 m5 => (.ext 0, o87a_0 ra rb rc ps t3 t4 m5)
noncomputable def r87a (ra : Int) (rb : Int) (rc : Int) (ps : List (List AV)) (t3 : Nat) (t4 : Int) (m5 : List (List AV)) : Option T87a := run (fun x => stp87a ra rb rc ps t3 x.t4 x.m5) (⟨t4, m5⟩ : S87a)
noncomputable def i87a_0 (ra : Int) (rb : Int) (rc : Int) (ps : List (List AV)) (t3 : Nat) (t4 : Int) (m5 : List (List AV)) : Bool := match r87a ra rb rc ps t3 t4 m5 with
  | some (.x0 _ _) => true
  | _ => false
noncomputable def v87a_0_t4 (ra : Int) (rb : Int) (rc : Int) (ps : List (List AV)) (t3 : Nat) (t4 : Int) (m5 : List (List AV)) : Int := match r87a ra rb rc ps t3 t4 m5 with
  | some (.x0 t4 _) => t4
  | _ => default
noncomputable def v87a_0_m5 (ra : Int) (rb : Int) (rc : Int) (ps : List (List AV)) (t3 : Nat) (t4 : Int) (m5 : List (List AV)) : List (List AV) := match r87a ra rb rc ps t3 t4 m5 with
  | some (.x0 _ m5) => m5
  | _ => default
noncomputable def l87a (st : St) : Option (List (Bool × Ex × St)) := match normW Try.prog [(1, none), (2, none), (3, none), (4, none)] 6 st with
  | some ([.rp [.int .i64, .int .i64, .int .i64, .sl 31] [.i .i64 ra, .i .i64 rb, .i .i64 rc, .rs 31 ps] 0, .nl, .sl 5 0 t3, .i .i64 t4], [(0, .dead), (1, .dead), (2, .dead), (3, .dead), (4, .dead), (5, .row 91 m5)], 6, 64) => some [(i87a_0 ra rb rc ps t3 t4 m5, .ext 0, o87a_0 ra rb rc ps t3 (v87a_0_t4 ra rb rc ps t3 t4 m5) (v87a_0_m5 ra rb rc ps t3 t4 m5))]
  | _ => none
noncomputable def L87 : LSpec := fun p st => match p with
  | [false, true, false, false, true, false, false, true, false, true, true, true] => l87aa st
  | [false, true, false, true, true, true] => l87a st
  | _ => none
theorem is87aa_0 (ra : Int) (rb : Int) (rc : Int) (ps : List (List AV)) (t3 : Nat) (t4 : Int) (t5 : Int) (m5 : List (List AV)) (h : i87aa_0 ra rb rc ps t3 t4 t5 m5 = true) : r87aa ra rb rc ps t3 t4 t5 m5 = some (.x0 (v87aa_0_t5 ra rb rc ps t3 t4 t5 m5) (v87aa_0_m5 ra rb rc ps t3 t4 t5 m5)) := by
  unfold i87aa_0 at h
  unfold v87aa_0_t5 v87aa_0_m5
  generalize r87aa ra rb rc ps t3 t4 t5 m5 = r at h ⊢
  rcases r with _ | y
  · cases h
  · cases y <;> first | rfl | cases h
theorem round87aa (ra : Int) (rb : Int) (rc : Int) (ps : List (List AV)) (t3 : Nat) (t4 : Int) (t5 : Int) (m5 : List (List AV)) : round Try.prog Se (ro 87) L87 lp87aa [false, true, false, false, true, false, false, true, false, true, true, true] [(1, none), (2, none), (3, none), (4, none), (5, none)] 6 (s87aa ra rb rc ps t3 t4 t5 m5) =
    cond (decide (t5 < (↑ps.length : Int))) (cond (inb t5 ps.length) (cond (decide (fI (ps.getD t5.toNat []) 1 ≤ t4)) (cond (inb t4 t3 && (0 + t4.toNat).blt m5.length) (cond (inb (fI (ps.getD t5.toNat []) 2) 10) (cond (ctsAt (cts Try.prog 91) (0 + (fI (ps.getD t5.toNat []) 2).toNat * 1) (cts Try.prog 3) && (0 + t4.toNat).blt m5.length) (cond (inb (IntKind.i64.wrap (t4 - fI (ps.getD t5.toNat []) 1)) t3 && (0 + (IntKind.i64.wrap (t4 - fI (ps.getD t5.toNat []) 1)).toNat).blt m5.length) (cond (inb (fI (ps.getD t5.toNat []) 3) 10) (cond (ctsAt (cts Try.prog 91) (0 + (fI (ps.getD t5.toNat []) 3).toNat * 1) (cts Try.prog 3) && (0 + (IntKind.i64.wrap (t4 - fI (ps.getD t5.toNat []) 1)).toNat).blt m5.length) (cond (inb t4 t3 && (0 + t4.toNat).blt m5.length) (cond (inb (fI (ps.getD t5.toNat []) 2) 10) (cond (ctsAt (cts Try.prog 91) (0 + (fI (ps.getD t5.toNat []) 2).toNat * 1) (cts Try.prog 3) && (0 + t4.toNat).blt m5.length) (some (.nrm, s87aa ra rb rc ps t3 t4 (IntKind.i64.wrap (t5 + 1)) (m5.set (0 + t4.toNat) (setCs (m5.getD (0 + t4.toNat) []) (0 + (fI (ps.getD t5.toNat []) 2).toNat * 1) [AV.i IntKind.i64 (bmin 1000000000000001 (IntKind.i64.wrap (toI ((m5.getD (0 + t4.toNat) []).getD (0 + (fI (ps.getD t5.toNat []) 2).toNat * 1) AV.u) + toI ((m5.getD (0 + (IntKind.i64.wrap (t4 - fI (ps.getD t5.toNat []) 1)).toNat) []).getD (0 + (fI (ps.getD t5.toNat []) 3).toNat * 1) AV.u))))])))) (none)) (none)) (none)) (none)) (none)) (none)) (none)) (none)) (none)) (some (.nrm, s87aa ra rb rc ps t3 t4 (IntKind.i64.wrap (t5 + 1)) m5))) (none)) (some (.ext 2, o87aa_0 ra rb rc ps t3 t4 t5 m5)) := by kernel_rfl
theorem rnd87aa (ra : Int) (rb : Int) (rc : Int) (ps : List (List AV)) (t3 : Nat) (t4 : Int) (x : S87aa) : round Try.prog Se (ro 87) L87 lp87aa [false, true, false, false, true, false, false, true, false, true, true, true] [(1, none), (2, none), (3, none), (4, none), (5, none)] 6 ((fun x => s87aa ra rb rc ps t3 t4 x.t5 x.m5) x) = toR (fun x => s87aa ra rb rc ps t3 t4 x.t5 x.m5) (ou87aa ra rb rc ps t3 t4) (stp87aa ra rb rc ps t3 t4 x.t5 x.m5) := by
  refine (round87aa _ _ _ _ _ _ _ _ ).trans ?_
  unfold stp87aa
  simp only [toR_cond]
  rfl
theorem lok87aa {st : St} {outs : List (Bool × Ex × St)} {e : Ex} {s : St} (hl : l87aa st = some outs) (hch : Chosen outs e s) :
    ∃ keep nb, 0 ≤ nb ∧ LB Try.prog Se (ro 87) L87 lp87aa [false, true, false, false, true, false, false, true, false, true, true, true] keep nb st e s := by
  unfold l87aa at hl
  split at hl
  · rename_i ra rb rc ps t3 t4 t5 m5 hno
    cases hl
    have hno := normW_norm hno
    refine ⟨_, _, ?_, .enter hno ?_⟩
    · decide
    have main := fun y h => LB_run (x := (⟨t5, m5⟩ : S87aa)) (y := y) (nb := 6) (fun y => by cases y <;> simp [ou87aa]) (rnd87aa ra rb rc ps t3 t4) h
    obtain ⟨x, hx, hg, rfl, rfl⟩ := chosen_any hch
    simp only [List.mem_cons, List.not_mem_nil, or_false] at hx
    subst hx
    exact main _ (is87aa_0 ra rb rc ps t3 t4 t5 m5 hg)
  · cases hl
theorem is87a_0 (ra : Int) (rb : Int) (rc : Int) (ps : List (List AV)) (t3 : Nat) (t4 : Int) (m5 : List (List AV)) (h : i87a_0 ra rb rc ps t3 t4 m5 = true) : r87a ra rb rc ps t3 t4 m5 = some (.x0 (v87a_0_t4 ra rb rc ps t3 t4 m5) (v87a_0_m5 ra rb rc ps t3 t4 m5)) := by
  unfold i87a_0 at h
  unfold v87a_0_t4 v87a_0_m5
  generalize r87a ra rb rc ps t3 t4 m5 = r at h ⊢
  rcases r with _ | y
  · cases h
  · cases y <;> first | rfl | cases h
theorem round87a (ra : Int) (rb : Int) (rc : Int) (ps : List (List AV)) (t3 : Nat) (t4 : Int) (m5 : List (List AV)) : round Try.prog Se (ro 87) L87 lp87a [false, true, false, true, true, true] [(1, none), (2, none), (3, none), (4, none)] 6 (s87a ra rb rc ps t3 t4 m5) =
    cond (decide (t4 ≤ ra)) (cond (i87aa_0 ra rb rc ps t3 t4 0 m5) (some (.nrm, s87a ra rb rc ps t3 (IntKind.i64.wrap (t4 + 1)) (v87aa_0_m5 ra rb rc ps t3 t4 0 m5))) (none)) (some (.ext 0, o87a_0 ra rb rc ps t3 t4 m5)) := by kernel_rfl
theorem rnd87a (ra : Int) (rb : Int) (rc : Int) (ps : List (List AV)) (t3 : Nat) (x : S87a) : round Try.prog Se (ro 87) L87 lp87a [false, true, false, true, true, true] [(1, none), (2, none), (3, none), (4, none)] 6 ((fun x => s87a ra rb rc ps t3 x.t4 x.m5) x) = toR (fun x => s87a ra rb rc ps t3 x.t4 x.m5) (ou87a ra rb rc ps t3) (stp87a ra rb rc ps t3 x.t4 x.m5) := by
  refine (round87a _ _ _ _ _ _ _ ).trans ?_
  unfold stp87a
  simp only [toR_cond]
  rfl
theorem lok87a {st : St} {outs : List (Bool × Ex × St)} {e : Ex} {s : St} (hl : l87a st = some outs) (hch : Chosen outs e s) :
    ∃ keep nb, 0 ≤ nb ∧ LB Try.prog Se (ro 87) L87 lp87a [false, true, false, true, true, true] keep nb st e s := by
  unfold l87a at hl
  split at hl
  · rename_i ra rb rc ps t3 t4 m5 hno
    cases hl
    have hno := normW_norm hno
    refine ⟨_, _, ?_, .enter hno ?_⟩
    · decide
    have main := fun y h => LB_run (x := (⟨t4, m5⟩ : S87a)) (y := y) (nb := 6) (fun y => by cases y <;> simp [ou87a]) (rnd87a ra rb rc ps t3) h
    obtain ⟨x, hx, hg, rfl, rfl⟩ := chosen_any hch
    simp only [List.mem_cons, List.not_mem_nil, or_false] at hx
    subst hx
    exact main _ (is87a_0 ra rb rc ps t3 t4 m5 hg)
  · cases hl
theorem L87_ok (q : Pl) (c : Code) (hq : locate c87 q.reverse = some (.loop c)) (st : St) (outs : List (Bool × Ex × St)) (e : Ex) (s : St) (hl : L87 q st = some outs) (hch : Chosen outs e s) :
    ∃ keep nb, 0 ≤ nb ∧ LB Try.prog Se (ro 87) L87 c q keep nb st e s := by
  unfold L87 at hl
  split at hl
  · have : locate c87 ([false, true, false, false, true, false, false, true, false, true, true, true] : Pl).reverse = some (.loop lp87aa) := by kernel_rfl
    rw [this] at hq
    cases hq
    exact lok87aa hl hch
  · have : locate c87 ([false, true, false, true, true, true] : Pl).reverse = some (.loop lp87a) := by kernel_rfl
    rw [this] at hq
    cases hq
    exact lok87a hl hch
  · cases hl
theorem lok87 : LOK Try.prog Se (ro 87) L87 0 false c87 [] :=
  lok_lo L87_ok c87 [] false (locate_nil _) (by kernel_rfl)
noncomputable def t87 (ra rb rc : Int) (ps : List (List AV)) : Tr ((List (List AV))) :=
  .cn (decide (IntKind.i64.wrap (ra + 1) = IntKind.i64.wrap (ra + 1)) && (decide (0 ≤ IntKind.i64.wrap (ra + 1)) && decide (IntKind.i64.wrap (ra + 1) * (↑80 : Int) ≤ 140737488355328) && decide (IntKind.i64.wrap (ra + 1) ≤ 9223372036854775807))) (.cn (inb 0 (IntKind.i64.wrap (ra + 1)).toNat && Nat.blt 0 (List.replicate (IntKind.i64.wrap (ra + 1)).toNat [AV.i IntKind.i64 0, AV.i IntKind.i64 0, AV.i IntKind.i64 0, AV.i IntKind.i64 0, AV.i IntKind.i64 0, AV.i IntKind.i64 0, AV.i IntKind.i64 0, AV.i IntKind.i64 0, AV.i IntKind.i64 0, AV.i IntKind.i64 0]).length) (.cn (inb rc 10) (.cn (ctsAt (cts Try.prog 91) (0 + rc.toNat * 1) (cts Try.prog 3) && Nat.blt 0 (List.replicate (IntKind.i64.wrap (ra + 1)).toNat [AV.i IntKind.i64 0, AV.i IntKind.i64 0, AV.i IntKind.i64 0, AV.i IntKind.i64 0, AV.i IntKind.i64 0, AV.i IntKind.i64 0, AV.i IntKind.i64 0, AV.i IntKind.i64 0, AV.i IntKind.i64 0, AV.i IntKind.i64 0]).length) (.cn (i87a_0 ra rb rc ps (IntKind.i64.wrap (ra + 1)).toNat 1 ((List.replicate (IntKind.i64.wrap (ra + 1)).toNat [AV.i IntKind.i64 0, AV.i IntKind.i64 0, AV.i IntKind.i64 0, AV.i IntKind.i64 0, AV.i IntKind.i64 0, AV.i IntKind.i64 0, AV.i IntKind.i64 0, AV.i IntKind.i64 0, AV.i IntKind.i64 0, AV.i IntKind.i64 0]).set 0 (setCs ((List.replicate (IntKind.i64.wrap (ra + 1)).toNat [AV.i IntKind.i64 0, AV.i IntKind.i64 0, AV.i IntKind.i64 0, AV.i IntKind.i64 0, AV.i IntKind.i64 0, AV.i IntKind.i64 0, AV.i IntKind.i64 0, AV.i IntKind.i64 0, AV.i IntKind.i64 0, AV.i IntKind.i64 0]).getD 0 []) (0 + rc.toNat * 1) [AV.i IntKind.i64 1]))) (.cn ((0 + (IntKind.i64.wrap (ra + 1)).toNat).ble (v87a_0_m5 ra rb rc ps (IntKind.i64.wrap (ra + 1)).toNat 1 ((List.replicate (IntKind.i64.wrap (ra + 1)).toNat [AV.i IntKind.i64 0, AV.i IntKind.i64 0, AV.i IntKind.i64 0, AV.i IntKind.i64 0, AV.i IntKind.i64 0, AV.i IntKind.i64 0, AV.i IntKind.i64 0, AV.i IntKind.i64 0, AV.i IntKind.i64 0, AV.i IntKind.i64 0]).set 0 (setCs ((List.replicate (IntKind.i64.wrap (ra + 1)).toNat [AV.i IntKind.i64 0, AV.i IntKind.i64 0, AV.i IntKind.i64 0, AV.i IntKind.i64 0, AV.i IntKind.i64 0, AV.i IntKind.i64 0, AV.i IntKind.i64 0, AV.i IntKind.i64 0, AV.i IntKind.i64 0, AV.i IntKind.i64 0]).getD 0 []) (0 + rc.toNat * 1) [AV.i IntKind.i64 1]))).length) (.lf (bif (IntKind.i64.wrap (ra + 1)).toNat.beq (v87a_0_m5 ra rb rc ps (IntKind.i64.wrap (ra + 1)).toNat 1 ((List.replicate (IntKind.i64.wrap (ra + 1)).toNat [AV.i IntKind.i64 0, AV.i IntKind.i64 0, AV.i IntKind.i64 0, AV.i IntKind.i64 0, AV.i IntKind.i64 0, AV.i IntKind.i64 0, AV.i IntKind.i64 0, AV.i IntKind.i64 0, AV.i IntKind.i64 0, AV.i IntKind.i64 0]).set 0 (setCs ((List.replicate (IntKind.i64.wrap (ra + 1)).toNat [AV.i IntKind.i64 0, AV.i IntKind.i64 0, AV.i IntKind.i64 0, AV.i IntKind.i64 0, AV.i IntKind.i64 0, AV.i IntKind.i64 0, AV.i IntKind.i64 0, AV.i IntKind.i64 0, AV.i IntKind.i64 0, AV.i IntKind.i64 0]).getD 0 []) (0 + rc.toNat * 1) [AV.i IntKind.i64 1]))).length then v87a_0_m5 ra rb rc ps (IntKind.i64.wrap (ra + 1)).toNat 1 ((List.replicate (IntKind.i64.wrap (ra + 1)).toNat [AV.i IntKind.i64 0, AV.i IntKind.i64 0, AV.i IntKind.i64 0, AV.i IntKind.i64 0, AV.i IntKind.i64 0, AV.i IntKind.i64 0, AV.i IntKind.i64 0, AV.i IntKind.i64 0, AV.i IntKind.i64 0, AV.i IntKind.i64 0]).set 0 (setCs ((List.replicate (IntKind.i64.wrap (ra + 1)).toNat [AV.i IntKind.i64 0, AV.i IntKind.i64 0, AV.i IntKind.i64 0, AV.i IntKind.i64 0, AV.i IntKind.i64 0, AV.i IntKind.i64 0, AV.i IntKind.i64 0, AV.i IntKind.i64 0, AV.i IntKind.i64 0, AV.i IntKind.i64 0]).getD 0 []) (0 + rc.toNat * 1) [AV.i IntKind.i64 1])) else List.take (IntKind.i64.wrap (ra + 1)).toNat (List.drop 0 (v87a_0_m5 ra rb rc ps (IntKind.i64.wrap (ra + 1)).toNat 1 ((List.replicate (IntKind.i64.wrap (ra + 1)).toNat [AV.i IntKind.i64 0, AV.i IntKind.i64 0, AV.i IntKind.i64 0, AV.i IntKind.i64 0, AV.i IntKind.i64 0, AV.i IntKind.i64 0, AV.i IntKind.i64 0, AV.i IntKind.i64 0, AV.i IntKind.i64 0, AV.i IntKind.i64 0]).set 0 (setCs ((List.replicate (IntKind.i64.wrap (ra + 1)).toNat [AV.i IntKind.i64 0, AV.i IntKind.i64 0, AV.i IntKind.i64 0, AV.i IntKind.i64 0, AV.i IntKind.i64 0, AV.i IntKind.i64 0, AV.i IntKind.i64 0, AV.i IntKind.i64 0, AV.i IntKind.i64 0, AV.i IntKind.i64 0]).getD 0 []) (0 + rc.toNat * 1) [AV.i IntKind.i64 1])))))) (.nn)) (.nn)) (.nn)) (.nn)) (.nn)) (.nn)
noncomputable def g87 (ra rb rc : Int) (ps : List (List AV)) : Bool := (t87 ra rb rc ps).g
noncomputable def w87_0 (ra rb rc : Int) (ps : List (List AV)) : List (List AV) := (t87 ra rb rc ps).val
theorem eq87 (ra rb rc : Int) (ps : List (List AV)) : evF Try.prog Se (ro 87) L87 Try.f87 [.agg [.i .i64 ra, .i .i64 rb, .i .i64 rc, .rs 31 ps]] = (t87 ra rb rc ps).opt (fun (x : (List (List AV))) => (.rs 91 x : AV)) := by kernel_rfl
theorem con87 (ra rb rc : Int) (ps : List (List AV)) (h : g87 ra rb rc ps = true) : Con Try.prog 87 [.agg [.i .i64 ra, .i .i64 rb, .i .i64 rc, .rs 31 ps]] [] (.rs 91 (w87_0 ra rb rc ps)) [] :=
  con_of Se_ok mixed Try.func87 (c := c87) rfl (names 87 _ Try.func87) lok87 ((eq87 ra rb rc ps).trans (Tr.sound _ _ h))
noncomputable def e87 (args : List AV) (rows : List Blk) : Option (Bool × AV × List Blk) := match args, rows with
  | [.agg [.i .i64 ra, .i .i64 rb, .i .i64 rc, .rs 31 ps]], [] => some (g87 ra rb rc ps, .rs 91 (w87_0 ra rb rc ps), [])
  | _, _ => none
theorem e87_ok (args : List AV) (rows : List Blk) (pre : Bool) (v : AV) (rows' : List Blk) (h : e87 args rows = some (pre, v, rows')) (hp : pre = true) : Con Try.prog 87 args rows v rows' := by
  unfold e87 at h
  split at h
  · cases h; exact con87 _ _ _ _ hp
  · cases h
-- SPEC 87
end Go.Proofs.Ytgifjphinkbcaaa

set_option maxRecDepth 100000
set_option linter.unusedVariables false
namespace Go.Proofs.Ytgifjphinkbcaaa
open Go Go.Ev
noncomputable def Sg : Ev.Spec := insS 87 e87 (insS 50 e50 (Sf))
theorem Sg_ok : SpecOK Try.prog Sg := insS_ok e87_ok (insS_ok e50_ok (Sf_ok))
end Go.Proofs.Ytgifjphinkbcaaa

set_option maxRecDepth 100000
set_option linter.unusedVariables false
namespace Go.Proofs.Ytgifjphinkbcaaa
open Go Go.Ev

/-! ### fits -/
noncomputable def c64 : Code := match Try.f64.body with | some c => c | _ => .skip
noncomputable def lp64a : Code := loopAt c64 [true, true, false, true, false]
noncomputable def s64a (ra : Int) (rb : Int) (rc : Int) (ps : List (List AV)) (t4 : Bool) (t6 : Bool) (ws : List (List AV)) (t12 : Int) (t13 : Int) (m4_0 : Int) (m4_1 : Int) : St :=
  { t := [(2, .rp [.int .i64, .int .i64, .int .i64, .sl 31] [.i .i64 ra, .i .i64 rb, .i .i64 rc, .rs 31 ps] 0), (4, .b t4), (5, .p 4 0 0), (6, .b t6), (11, .rs 3 ws), (12, .i .i64 t12), (13, .i .i64 t13)], m := [(0, .dead), (1, .dead), (2, .dead), (3, .dead), (4, .row 78 [[.i .i64 m4_0, .i .i64 m4_1]])], nx := 5, nt := 42 }
structure S64a where
  t6 : Bool
  t13 : Int
  m4_0 : Int
  m4_1 : Int
inductive T64a where
  | x0 (t4' : Bool) (t6 : Bool) (t13 : Int) (m4_0 : Int) (m4_1 : Int)
  | x1 (t6 : Bool) (t13 : Int) (m4_0 : Int) (m4_1 : Int)
noncomputable def stp64a (ra : Int) (rb : Int) (rc : Int) (ps : List (List AV)) (t4 : Bool) (ws : List (List AV)) (t12 : Int) (t6 : Bool) (t13 : Int) (m4_0 : Int) (m4_1 : Int) : Lp S64a T64a :=
  cond (decide (t13 < t12)) (cond (inb t13 ws.length) (cond (g55 (fI (ws.getD t13.toNat []) 0) 0 (IntKind.i64.wrap ((↑ps.length : Int) - 1))) (cond (!w55_0 (fI (ws.getD t13.toNat []) 0) 0 (IntKind.i64.wrap ((↑ps.length : Int) - 1))) (.out (.x0 false t6 t13 m4_0 m4_1)) (cond (inb (fI (ws.getD t13.toNat []) 0) ps.length) (cond (g71 m4_0 m4_1 (fS (ps.getD (fI (ws.getD t13.toNat []) 0).toNat []) 0) (fI (ps.getD (fI (ws.getD t13.toNat []) 0).toNat []) 1) (fI (ps.getD (fI (ws.getD t13.toNat []) 0).toNat []) 2) (fI (ps.getD (fI (ws.getD t13.toNat []) 0).toNat []) 3) (fI (ps.getD (fI (ws.getD t13.toNat []) 0).toNat []) 4)) (cond (!w71_2 m4_0 m4_1 (fS (ps.getD (fI (ws.getD t13.toNat []) 0).toNat []) 0) (fI (ps.getD (fI (ws.getD t13.toNat []) 0).toNat []) 1) (fI (ps.getD (fI (ws.getD t13.toNat []) 0).toNat []) 2) (fI (ps.getD (fI (ws.getD t13.toNat []) 0).toNat []) 3) (fI (ps.getD (fI (ws.getD t13.toNat []) 0).toNat []) 4)) (.out (.x0 false (w71_2 m4_0 m4_1 (fS (ps.getD (fI (ws.getD t13.toNat []) 0).toNat []) 0) (fI (ps.getD (fI (ws.getD t13.toNat []) 0).toNat []) 1) (fI (ps.getD (fI (ws.getD t13.toNat []) 0).toNat []) 2) (fI (ps.getD (fI (ws.getD t13.toNat []) 0).toNat []) 3) (fI (ps.getD (fI (ws.getD t13.toNat []) 0).toNat []) 4)) t13 (w71_0 m4_0 m4_1 (fS (ps.getD (fI (ws.getD t13.toNat []) 0).toNat []) 0) (fI (ps.getD (fI (ws.getD t13.toNat []) 0).toNat []) 1) (fI (ps.getD (fI (ws.getD t13.toNat []) 0).toNat []) 2) (fI (ps.getD (fI (ws.getD t13.toNat []) 0).toNat []) 3) (fI (ps.getD (fI (ws.getD t13.toNat []) 0).toNat []) 4)) (w71_1 m4_0 m4_1 (fS (ps.getD (fI (ws.getD t13.toNat []) 0).toNat []) 0) (fI (ps.getD (fI (ws.getD t13.toNat []) 0).toNat []) 1) (fI (ps.getD (fI (ws.getD t13.toNat []) 0).toNat []) 2) (fI (ps.getD (fI (ws.getD t13.toNat []) 0).toNat []) 3) (fI (ps.getD (fI (ws.getD t13.toNat []) 0).toNat []) 4)))) (.go ⟨w71_2 m4_0 m4_1 (fS (ps.getD (fI (ws.getD t13.toNat []) 0).toNat []) 0) (fI (ps.getD (fI (ws.getD t13.toNat []) 0).toNat []) 1) (fI (ps.getD (fI (ws.getD t13.toNat []) 0).toNat []) 2) (fI (ps.getD (fI (ws.getD t13.toNat []) 0).toNat []) 3) (fI (ps.getD (fI (ws.getD t13.toNat []) 0).toNat []) 4), IntKind.i64.wrap (t13 + 1), w71_0 m4_0 m4_1 (fS (ps.getD (fI (ws.getD t13.toNat []) 0).toNat []) 0) (fI (ps.getD (fI (ws.getD t13.toNat []) 0).toNat []) 1) (fI (ps.getD (fI (ws.getD t13.toNat []) 0).toNat []) 2) (fI (ps.getD (fI (ws.getD t13.toNat []) 0).toNat []) 3) (fI (ps.getD (fI (ws.getD t13.toNat []) 0).toNat []) 4), w71_1 m4_0 m4_1 (fS (ps.getD (fI (ws.getD t13.toNat []) 0).toNat []) 0) (fI (ps.getD (fI (ws.getD t13.toNat []) 0).toNat []) 1) (fI (ps.getD (fI (ws.getD t13.toNat []) 0).toNat []) 2) (fI (ps.getD (fI (ws.getD t13.toNat []) 0).toNat []) 3) (fI (ps.getD (fI (ws.getD t13.toNat []) 0).toNat []) 4)⟩)) (.bad)) (.bad))) (.bad)) (.bad)) (.out (.x1 t6 t13 m4_0 m4_1))
noncomputable def o64a_0 (ra : Int) (rb : Int) (rc : Int) (ps : List (List AV)) (t4 : Bool) (ws : List (List AV)) (t12 : Int) (t4' : Bool) (t6 : Bool) (t13 : Int) (m4_0 : Int) (m4_1 : Int) : St :=
  { t := [(2, .rp [.int .i64, .int .i64, .int .i64, .sl 31] [.i .i64 ra, .i .i64 rb, .i .i64 rc, .rs 31 ps] 0), (4, .b t4'), (5, .p 4 0 0), (6, .b t6), (11, .rs 3 ws), (12, .i .i64 t12), (13, .i .i64 t13)], m := [(0, .dead), (1, .dead), (2, .dead), (3, .dead), (4, .row 78 [[.i .i64 m4_0, .i .i64 m4_1]])], nx := 5, nt := 42 }
noncomputable def o64a_1 (ra : Int) (rb : Int) (rc : Int) (ps : List (List AV)) (t4 : Bool) (ws : List (List AV)) (t12 : Int) (t6 : Bool) (t13 : Int) (m4_0 : Int) (m4_1 : Int) : St :=
  { t := [(2, .rp [.int .i64, .int .i64, .int .i64, .sl 31] [.i .i64 ra, .i .i64 rb, .i .i64 rc, .rs 31 ps] 0), (4, .b t4), (5, .p 4 0 0), (6, .b t6), (11, .rs 3 ws), (12, .i .i64 t12), (13, .i .i64 t13)], m := [(0, .dead), (1, .dead), (2, .dead), (3, .dead), (4, .row 78 [[.i .i64 m4_0, .i .i64 m4_1]])], nx := 5, nt := 42 }
noncomputable def ou64a (ra : Int) (rb : Int) (rc : Int) (ps : List (List AV)) (t4 : Bool) (ws : List (List AV)) (t12 : Int) : T64a → Ex × St
  | .x0 t4' t6 t13 m4_0 m4_1 => (.ret, o64a_0 ra rb rc ps t4 ws t12 t4' t6 t13 m4_0 m4_1)
  | .x1 t6 t13 m4_0 m4_1 => (.ext 0, o64a_1 ra rb rc ps t4 ws t12 t6 t13 m4_0 m4_1)
noncomputable def r64a (ra : Int) (rb : Int) (rc : Int) (ps : List (List AV)) (t4 : Bool) (ws : List (List AV)) (t12 : Int) (t6 : Bool) (t13 : Int) (m4_0 : Int) (m4_1 : Int) : Option T64a := run (fun x => stp64a ra rb rc ps t4 ws t12 x.t6 x.t13 x.m4_0 x.m4_1) (⟨t6, t13, m4_0, m4_1⟩ : S64a)
noncomputable def i64a_0 (ra : Int) (rb : Int) (rc : Int) (ps : List (List AV)) (t4 : Bool) (ws : List (List AV)) (t12 : Int) (t6 : Bool) (t13 : Int) (m4_0 : Int) (m4_1 : Int) : Bool := match r64a ra rb rc ps t4 ws t12 t6 t13 m4_0 m4_1 with
  | some (.x0 _ _ _ _ _) => true
  | _ => false
noncomputable def v64a_0_t4' (ra : Int) (rb : Int) (rc : Int) (ps : List (List AV)) (t4 : Bool) (ws : List (List AV)) (t12 : Int) (t6 : Bool) (t13 : Int) (m4_0 : Int) (m4_1 : Int) : Bool := match r64a ra rb rc ps t4 ws t12 t6 t13 m4_0 m4_1 with
  | some (.x0 t4' _ _ _ _) => t4'
  | _ => default
noncomputable def v64a_0_t6 (ra : Int) (rb : Int) (rc : Int) (ps : List (List AV)) (t4 : Bool) (ws : List (List AV)) (t12 : Int) (t6 : Bool) (t13 : Int) (m4_0 : Int) (m4_1 : Int) : Bool := match r64a ra rb rc ps t4 ws t12 t6 t13 m4_0 m4_1 with
  | some (.x0 _ t6 _ _ _) => t6
  | _ => default
noncomputable def v64a_0_t13 (ra : Int) (rb : Int) (rc : Int) (ps : List (List AV)) (t4 : Bool) (ws : List (List AV)) (t12 : Int) (t6 : Bool) (t13 : Int) (m4_0 : Int) (m4_1 : Int) : Int := match r64a ra rb rc ps t4 ws t12 t6 t13 m4_0 m4_1 with
  | some (.x0 _ _ t13 _ _) => t13
  | _ => default
noncomputable def v64a_0_m4_0 (ra : Int) (rb : Int) (rc : Int) (ps : List (List AV)) (t4 : Bool) (ws : List (List AV)) (t12 : Int) (t6 : Bool) (t13 : Int) (m4_0 : Int) (m4_1 : Int) : Int := match r64a ra rb rc ps t4 ws t12 t6 t13 m4_0 m4_1 with
  | some (.x0 _ _ _ m4_0 _) => m4_0
  | _ => default
noncomputable def v64a_0_m4_1 (ra : Int) (rb : Int) (rc : Int) (ps : List (List AV)) (t4 : Bool) (ws : List (List AV)) (t12 : Int) (t6 : Bool) (t13 : Int) (m4_0 : Int) (m4_1 : Int) : Int := match r64a ra rb rc ps t4 ws t12 t6 t13 m4_0 m4_1 with
  | some (.x0 _ _ _ _ m4_1) => m4_1
  | _ => default
noncomputable def i64a_1 (ra : Int) (rb : Int) (rc : Int) (ps : List (List AV)) (t4 : Bool) (ws : List (List AV)) (t12 : Int) (t6 : Bool) (t13 : Int) (m4_0 : Int) (m4_1 : Int) : Bool := match r64a ra rb rc ps t4 ws t12 t6 t13 m4_0 m4_1 with
  | some (.x1 _ _ _ _) => true
  | _ => false
noncomputable def v64a_1_t6 (ra : Int) (rb : Int) (rc : Int) (ps : List (List AV)) (t4 : Bool) (ws : List (List AV)) (t12 : Int) (t6 : Bool) (t13 : Int) (m4_0 : Int) (m4_1 : Int) : Bool := match r64a ra rb rc ps t4 ws t12 t6 t13 m4_0 m4_1 with
  | some (.x1 t6 _ _ _) => t6
  | _ => default
noncomputable def v64a_1_t13 (ra : Int) (rb : Int) (rc : Int) (ps : List (List AV)) (t4 : Bool) (ws : List (List AV)) (t12 : Int) (t6 : Bool) (t13 : Int) (m4_0 : Int) (m4_1 : Int) : Int := match r64a ra rb rc ps t4 ws t12 t6 t13 m4_0 m4_1 with
  | some (.x1 _ t13 _ _) => t13
  | _ => default
noncomputable def v64a_1_m4_0 (ra : Int) (rb : Int) (rc : Int) (ps : List (List AV)) (t4 : Bool) (ws : List (List AV)) (t12 : Int) (t6 : Bool) (t13 : Int) (m4_0 : Int) (m4_1 : Int) : Int := match r64a ra rb rc ps t4 ws t12 t6 t13 m4_0 m4_1 with
  | some (.x1 _ _ m4_0 _) => m4_0
  | _ => default
noncomputable def v64a_1_m4_1 (ra : Int) (rb : Int) (rc : Int) (ps : List (List AV)) (t4 : Bool) (ws : List (List AV)) (t12 : Int) (t6 : Bool) (t13 : Int) (m4_0 : Int) (m4_1 : Int) : Int := match r64a ra rb rc ps t4 ws t12 t6 t13 m4_0 m4_1 with
  | some (.x1 _ _ _ m4_1) => m4_1
  | _ => default
noncomputable def l64a (st : St) : Option (List (Bool × Ex × St)) := match normW Try.prog [(2, none), (4, none), (5, none), (6, none), (11, none), (12, none), (13, none)] 5 st with
  | some ([.rp [.int .i64, .int .i64, .int .i64, .sl 31] [.i .i64 ra, .i .i64 rb, .i .i64 rc, .rs 31 ps] 0, .b t4, .p 4 0 0, .b t6, .rs 3 ws, .i .i64 t12, .i .i64 t13], [(0, .dead), (1, .dead), (2, .dead), (3, .dead), (4, .row 78 [[.i .i64 m4_0, .i .i64 m4_1]])], 5, 42) => some [(i64a_0 ra rb rc ps t4 ws t12 t6 t13 m4_0 m4_1, .ret, o64a_0 ra rb rc ps t4 ws t12 (v64a_0_t4' ra rb rc ps t4 ws t12 t6 t13 m4_0 m4_1) (v64a_0_t6 ra rb rc ps t4 ws t12 t6 t13 m4_0 m4_1) (v64a_0_t13 ra rb rc ps t4 ws t12 t6 t13 m4_0 m4_1) (v64a_0_m4_0 ra rb rc ps t4 ws t12 t6 t13 m4_0 m4_1) (v64a_0_m4_1 ra rb rc ps t4 ws t12 t6 t13 m4_0 m4_1)), (i64a_1 ra rb rc ps t4 ws t12 t6 t13 m4_0 m4_1, .ext 0, o64a_1 ra rb rc ps t4 ws t12 (v64a_1_t6 ra rb rc ps t4 ws t12 t6 t13 m4_0 m4_1) (v64a_1_t13 ra rb rc ps t4 ws t12 t6 t13 m4_0 m4_1) (v64a_1_m4_0 ra rb rc ps t4 ws t12 t6 t13 m4_0 m4_1) (v64a_1_m4_1 ra rb rc ps t4 ws t12 t6 t13 m4_0 m4_1))]
  | _ => none
noncomputable def L64 : LSpec := fun p st => match p with
  | [false, true, false, true, true] => l64a st
  | _ => none
theorem is64a_0 (ra : Int) (rb : Int) (rc : Int) (ps : List (List AV)) (t4 : Bool) (ws : List (List AV)) (t12 : Int) (t6 : Bool) (t13 : Int) (m4_0 : Int) (m4_1 : Int) (h : i64a_0 ra rb rc ps t4 ws t12 t6 t13 m4_0 m4_1 = true) : r64a ra rb rc ps t4 ws t12 t6 t13 m4_0 m4_1 = some (.x0 (v64a_0_t4' ra rb rc ps t4 ws t12 t6 t13 m4_0 m4_1) (v64a_0_t6 ra rb rc ps t4 ws t12 t6 t13 m4_0 m4_1) (v64a_0_t13 ra rb rc ps t4 ws t12 t6 t13 m4_0 m4_1) (v64a_0_m4_0 ra rb rc ps t4 ws t12 t6 t13 m4_0 m4_1) (v64a_0_m4_1 ra rb rc ps t4 ws t12 t6 t13 m4_0 m4_1)) := by
  unfold i64a_0 at h
  unfold v64a_0_t4' v64a_0_t6 v64a_0_t13 v64a_0_m4_0 v64a_0_m4_1
  generalize r64a ra rb rc ps t4 ws t12 t6 t13 m4_0 m4_1 = r at h ⊢
  rcases r with _ | y
  · cases h
  · cases y <;> first | rfl | cases h
theorem is64a_1 (ra : Int) (rb : Int) (rc : Int) (ps : List (List AV)) (t4 : Bool) (ws : List (List AV)) (t12 : Int) (t6 : Bool) (t13 : Int) (m4_0 : Int) (m4_1 : Int) (h : i64a_1 ra rb rc ps t4 ws t12 t6 t13 m4_0 m4_1 = true) : r64a ra rb rc ps t4 ws t12 t6 t13 m4_0 m4_1 = some (.x1 (v64a_1_t6 ra rb rc ps t4 ws t12 t6 t13 m4_0 m4_1) (v64a_1_t13 ra rb rc ps t4 ws t12 t6 t13 m4_0 m4_1) (v64a_1_m4_0 ra rb rc ps t4 ws t12 t6 t13 m4_0 m4_1) (v64a_1_m4_1 ra rb rc ps t4 ws t12 t6 t13 m4_0 m4_1)) := by
  unfold i64a_1 at h
  unfold v64a_1_t6 v64a_1_t13 v64a_1_m4_0 v64a_1_m4_1
  generalize r64a ra rb rc ps t4 ws t12 t6 t13 m4_0 m4_1 = r at h ⊢
  rcases r with _ | y
  · cases h
  · cases y <;> first | rfl | cases h
theorem round64a (ra : Int) (rb : Int) (rc : Int) (ps : List (List AV)) (t4 : Bool) (t6 : Bool) (ws : List (List AV)) (t12 : Int) (t13 : Int) (m4_0 : Int) (m4_1 : Int) : round Try.prog Sg (ro 64) L64 lp64a [false, true, false, true, true] [(2, none), (4, none), (5, none), (6, none), (11, none), (12, none), (13, none)] 5 (s64a ra rb rc ps t4 t6 ws t12 t13 m4_0 m4_1) =
    cond (decide (t13 < t12)) (cond (inb t13 ws.length) (cond (g55 (fI (ws.getD t13.toNat []) 0) 0 (IntKind.i64.wrap ((↑ps.length : Int) - 1))) (cond (!w55_0 (fI (ws.getD t13.toNat []) 0) 0 (IntKind.i64.wrap ((↑ps.length : Int) - 1))) (some (.ret, o64a_0 ra rb rc ps t4 ws t12 false t6 t13 m4_0 m4_1)) (cond (inb (fI (ws.getD t13.toNat []) 0) ps.length) (cond (g71 m4_0 m4_1 (fS (ps.getD (fI (ws.getD t13.toNat []) 0).toNat []) 0) (fI (ps.getD (fI (ws.getD t13.toNat []) 0).toNat []) 1) (fI (ps.getD (fI (ws.getD t13.toNat []) 0).toNat []) 2) (fI (ps.getD (fI (ws.getD t13.toNat []) 0).toNat []) 3) (fI (ps.getD (fI (ws.getD t13.toNat []) 0).toNat []) 4)) (cond (!w71_2 m4_0 m4_1 (fS (ps.getD (fI (ws.getD t13.toNat []) 0).toNat []) 0) (fI (ps.getD (fI (ws.getD t13.toNat []) 0).toNat []) 1) (fI (ps.getD (fI (ws.getD t13.toNat []) 0).toNat []) 2) (fI (ps.getD (fI (ws.getD t13.toNat []) 0).toNat []) 3) (fI (ps.getD (fI (ws.getD t13.toNat []) 0).toNat []) 4)) (some (.ret, o64a_0 ra rb rc ps t4 ws t12 false (w71_2 m4_0 m4_1 (fS (ps.getD (fI (ws.getD t13.toNat []) 0).toNat []) 0) (fI (ps.getD (fI (ws.getD t13.toNat []) 0).toNat []) 1) (fI (ps.getD (fI (ws.getD t13.toNat []) 0).toNat []) 2) (fI (ps.getD (fI (ws.getD t13.toNat []) 0).toNat []) 3) (fI (ps.getD (fI (ws.getD t13.toNat []) 0).toNat []) 4)) t13 (w71_0 m4_0 m4_1 (fS (ps.getD (fI (ws.getD t13.toNat []) 0).toNat []) 0) (fI (ps.getD (fI (ws.getD t13.toNat []) 0).toNat []) 1) (fI (ps.getD (fI (ws.getD t13.toNat []) 0).toNat []) 2) (fI (ps.getD (fI (ws.getD t13.toNat []) 0).toNat []) 3) (fI (ps.getD (fI (ws.getD t13.toNat []) 0).toNat []) 4)) (w71_1 m4_0 m4_1 (fS (ps.getD (fI (ws.getD t13.toNat []) 0).toNat []) 0) (fI (ps.getD (fI (ws.getD t13.toNat []) 0).toNat []) 1) (fI (ps.getD (fI (ws.getD t13.toNat []) 0).toNat []) 2) (fI (ps.getD (fI (ws.getD t13.toNat []) 0).toNat []) 3) (fI (ps.getD (fI (ws.getD t13.toNat []) 0).toNat []) 4)))) (some (.nrm, s64a ra rb rc ps t4 (w71_2 m4_0 m4_1 (fS (ps.getD (fI (ws.getD t13.toNat []) 0).toNat []) 0) (fI (ps.getD (fI (ws.getD t13.toNat []) 0).toNat []) 1) (fI (ps.getD (fI (ws.getD t13.toNat []) 0).toNat []) 2) (fI (ps.getD (fI (ws.getD t13.toNat []) 0).toNat []) 3) (fI (ps.getD (fI (ws.getD t13.toNat []) 0).toNat []) 4)) ws t12 (IntKind.i64.wrap (t13 + 1)) (w71_0 m4_0 m4_1 (fS (ps.getD (fI (ws.getD t13.toNat []) 0).toNat []) 0) (fI (ps.getD (fI (ws.getD t13.toNat []) 0).toNat []) 1) (fI (ps.getD (fI (ws.getD t13.toNat []) 0).toNat []) 2) (fI (ps.getD (fI (ws.getD t13.toNat []) 0).toNat []) 3) (fI (ps.getD (fI (ws.getD t13.toNat []) 0).toNat []) 4)) (w71_1 m4_0 m4_1 (fS (ps.getD (fI (ws.getD t13.toNat []) 0).toNat []) 0) (fI (ps.getD (fI (ws.getD t13.toNat []) 0).toNat []) 1) (fI (ps.getD (fI (ws.getD t13.toNat []) 0).toNat []) 2) (fI (ps.getD (fI (ws.getD t13.toNat []) 0).toNat []) 3) (fI (ps.getD (fI (ws.getD t13.toNat []) 0).toNat []) 4))))) (none)) (none))) (none)) (none)) (some (.ext 0, o64a_1 ra rb rc ps t4 ws t12 t6 t13 m4_0 m4_1)) := by kernel_rfl
theorem rnd64a (ra : Int) (rb : Int) (rc : Int) (ps : List (List AV)) (t4 : Bool) (ws : List (List AV)) (t12 : Int) (x : S64a) : round Try.prog Sg (ro 64) L64 lp64a [false, true, false, true, true] [(2, none), (4, none), (5, none), (6, none), (11, none), (12, none), (13, none)] 5 ((fun x => s64a ra rb rc ps t4 x.t6 ws t12 x.t13 x.m4_0 x.m4_1) x) = toR (fun x => s64a ra rb rc ps t4 x.t6 ws t12 x.t13 x.m4_0 x.m4_1) (ou64a ra rb rc ps t4 ws t12) (stp64a ra rb rc ps t4 ws t12 x.t6 x.t13 x.m4_0 x.m4_1) := by
  refine (round64a _ _ _ _ _ _ _ _ _ _ _ ).trans ?_
  unfold stp64a
  simp only [toR_cond]
  rfl
theorem lok64a {st : St} {outs : List (Bool × Ex × St)} {e : Ex} {s : St} (hl : l64a st = some outs) (hch : Chosen outs e s) :
    ∃ keep nb, 0 ≤ nb ∧ LB Try.prog Sg (ro 64) L64 lp64a [false, true, false, true, true] keep nb st e s := by
  unfold l64a at hl
  split at hl
  · rename_i ra rb rc ps t4 t6 ws t12 t13 m4_0 m4_1 hno
    cases hl
    have hno := normW_norm hno
    refine ⟨_, _, ?_, .enter hno ?_⟩
    · decide
    have main := fun y h => LB_run (x := (⟨t6, t13, m4_0, m4_1⟩ : S64a)) (y := y) (nb := 5) (fun y => by cases y <;> simp [ou64a]) (rnd64a ra rb rc ps t4 ws t12) h
    obtain ⟨x, hx, hg, rfl, rfl⟩ := chosen_any hch
    simp only [List.mem_cons, List.not_mem_nil, or_false] at hx
    rcases hx with rfl | rfl
    · exact main _ (is64a_0 ra rb rc ps t4 ws t12 t6 t13 m4_0 m4_1 hg)
    · exact main _ (is64a_1 ra rb rc ps t4 ws t12 t6 t13 m4_0 m4_1 hg)
  · cases hl
theorem L64_ok (q : Pl) (c : Code) (hq : locate c64 q.reverse = some (.loop c)) (st : St) (outs : List (Bool × Ex × St)) (e : Ex) (s : St) (hl : L64 q st = some outs) (hch : Chosen outs e s) :
    ∃ keep nb, 0 ≤ nb ∧ LB Try.prog Sg (ro 64) L64 c q keep nb st e s := by
  unfold L64 at hl
  split at hl
  · have : locate c64 ([false, true, false, true, true] : Pl).reverse = some (.loop lp64a) := by kernel_rfl
    rw [this] at hq
    cases hq
    exact lok64a hl hch
  · cases hl
theorem lok64 : LOK Try.prog Sg (ro 64) L64 0 false c64 [] :=
  lok_lo L64_ok c64 [] false (locate_nil _) (by kernel_rfl)
noncomputable def t64 (ra rb rc : Int) (ps : List (List AV)) (ws : List (List AV)) : Tr ((Bool)) :=
  .cn (i64a_0 ra rb rc ps false ws (↑ws.length : Int) true 0 (w52_0 ra rb rc ps) (w52_1 ra rb rc ps)) (.lf (v64a_0_t4' ra rb rc ps false ws (↑ws.length : Int) true 0 (w52_0 ra rb rc ps) (w52_1 ra rb rc ps))) (.cn (i64a_1 ra rb rc ps false ws (↑ws.length : Int) true 0 (w52_0 ra rb rc ps) (w52_1 ra rb rc ps)) (.lf (v64a_1_m4_0 ra rb rc ps false ws (↑ws.length : Int) true 0 (w52_0 ra rb rc ps) (w52_1 ra rb rc ps) == 0 && v64a_1_m4_1 ra rb rc ps false ws (↑ws.length : Int) true 0 (w52_0 ra rb rc ps) (w52_1 ra rb rc ps) == rc)) (.nn))
noncomputable def g64 (ra rb rc : Int) (ps : List (List AV)) (ws : List (List AV)) : Bool := (t64 ra rb rc ps ws).g
noncomputable def w64_0 (ra rb rc : Int) (ps : List (List AV)) (ws : List (List AV)) : Bool := (t64 ra rb rc ps ws).val
theorem eq64 (ra rb rc : Int) (ps : List (List AV)) (ws : List (List AV)) : evF Try.prog Sg (ro 64) L64 Try.f64 [.agg [.i .i64 ra, .i .i64 rb, .i .i64 rc, .rs 31 ps], .rs 3 ws] = (t64 ra rb rc ps ws).opt (fun (x : (Bool)) => (.b x : AV)) := by kernel_rfl
theorem con64 (ra rb rc : Int) (ps : List (List AV)) (ws : List (List AV)) (h : g64 ra rb rc ps ws = true) : Con Try.prog 64 [.agg [.i .i64 ra, .i .i64 rb, .i .i64 rc, .rs 31 ps], .rs 3 ws] [] (.b (w64_0 ra rb rc ps ws)) [] :=
  con_of Sg_ok mixed Try.func64 (c := c64) rfl (names 64 _ Try.func64) lok64 ((eq64 ra rb rc ps ws).trans (Tr.sound _ _ h))
noncomputable def e64 (args : List AV) (rows : List Blk) : Option (Bool × AV × List Blk) := match args, rows with
  | [.agg [.i .i64 ra, .i .i64 rb, .i .i64 rc, .rs 31 ps], .rs 3 ws], [] => some (g64 ra rb rc ps ws, .b (w64_0 ra rb rc ps ws), [])
  | _, _ => none
theorem e64_ok (args : List AV) (rows : List Blk) (pre : Bool) (v : AV) (rows' : List Blk) (h : e64 args rows = some (pre, v, rows')) (hp : pre = true) : Con Try.prog 64 args rows v rows' := by
  unfold e64 at h
  split at h
  · cases h; exact con64 _ _ _ _ _ hp
  · cases h
-- SPEC 64
end Go.Proofs.Ytgifjphinkbcaaa

set_option maxRecDepth 100000
set_option linter.unusedVariables false
namespace Go.Proofs.Ytgifjphinkbcaaa
open Go Go.Ev

/-! ### ref fits -/
noncomputable def c65 : Code := match Try.f65.body with | some c => c | _ => .skip
noncomputable def lp65a : Code := loopAt c65 [true, true, false, true, false]
noncomputable def s65a (ws : List (List AV)) (ra : Int) (rb : Int) (rc : Int) (ps : List (List AV)) (t4 : Bool) (t5 : Int) (t6 : Int) (t7 : Int) : St :=
  { t := [(1, .rs 3 ws), (2, .rp [.int .i64, .int .i64, .int .i64, .sl 31] [.i .i64 ra, .i .i64 rb, .i .i64 rc, .rs 31 ps] 0), (4, .b t4), (5, .i .i64 t5), (6, .i .i64 t6), (7, .i .i64 t7)], m := [], nx := 0, nt := 64 }
structure S65a where
  t5 : Int
  t6 : Int
  t7 : Int
inductive T65a where
  | x0 (t4' : Bool) (t5 : Int) (t6 : Int) (t7 : Int)
  | x1 (t5 : Int) (t6 : Int) (t7 : Int)
noncomputable def stp65a (ws : List (List AV)) (ra : Int) (rb : Int) (rc : Int) (ps : List (List AV)) (t4 : Bool) (t5 : Int) (t6 : Int) (t7 : Int) : Lp S65a T65a :=
  cond (decide (t7 < (↑ws.length : Int))) (cond (inb t7 ws.length) (cond (g57 (fI (ws.getD t7.toNat []) 0) 0 (IntKind.i64.wrap ((↑ps.length : Int) - 1))) (cond (!w57_0 (fI (ws.getD t7.toNat []) 0) 0 (IntKind.i64.wrap ((↑ps.length : Int) - 1))) (.out (.x0 false t5 t6 t7)) (cond (inb t7 ws.length) (cond (inb (fI (ws.getD t7.toNat []) 0) ps.length) (cond (fI (ps.getD (fI (ws.getD t7.toNat []) 0).toNat []) 2 != t6) (.out (.x0 false t5 t6 t7)) (cond (decide (fI (ps.getD (fI (ws.getD t7.toNat []) 0).toNat []) 1 > IntKind.i64.wrap (ra - t5))) (.out (.x0 false t5 t6 t7)) (.go ⟨IntKind.i64.wrap (t5 + fI (ps.getD (fI (ws.getD t7.toNat []) 0).toNat []) 1), fI (ps.getD (fI (ws.getD t7.toNat []) 0).toNat []) 3, IntKind.i64.wrap (t7 + 1)⟩))) (.bad)) (.bad))) (.bad)) (.bad)) (.out (.x1 t5 t6 t7))
noncomputable def o65a_0 (ws : List (List AV)) (ra : Int) (rb : Int) (rc : Int) (ps : List (List AV)) (t4 : Bool) (t4' : Bool) (t5 : Int) (t6 : Int) (t7 : Int) : St :=
  { t := [(1, .rs 3 ws), (2, .rp [.int .i64, .int .i64, .int .i64, .sl 31] [.i .i64 ra, .i .i64 rb, .i .i64 rc, .rs 31 ps] 0), (4, .b t4'), (5, .i .i64 t5), (6, .i .i64 t6), (7, .i .i64 t7)], m := [], nx := 0, nt := 64 }
noncomputable def o65a_1 (ws : List (List AV)) (ra : Int) (rb : Int) (rc : Int) (ps : List (List AV)) (t4 : Bool) (t5 : Int) (t6 : Int) (t7 : Int) : St :=
  { t := [(1, .rs 3 ws), (2, .rp [.int .i64, .int .i64, .int .i64, .sl 31] [.i .i64 ra, .i .i64 rb, .i .i64 rc, .rs 31 ps] 0), (4, .b t4), (5, .i .i64 t5), (6, .i .i64 t6), (7, .i .i64 t7)], m := [], nx := 0, nt := 64 }
noncomputable def ou65a (ws : List (List AV)) (ra : Int) (rb : Int) (rc : Int) (ps : List (List AV)) (t4 : Bool) : T65a → Ex × St
  | .x0 t4' t5 t6 t7 => (.ret, o65a_0 ws ra rb rc ps t4 t4' t5 t6 t7)
  | .x1 t5 t6 t7 => (.ext 0, o65a_1 ws ra rb rc ps t4 t5 t6 t7)
noncomputable def r65a (ws : List (List AV)) (ra : Int) (rb : Int) (rc : Int) (ps : List (List AV)) (t4 : Bool) (t5 : Int) (t6 : Int) (t7 : Int) : Option T65a := run (fun x => stp65a ws ra rb rc ps t4 x.t5 x.t6 x.t7) (⟨t5, t6, t7⟩ : S65a)
noncomputable def i65a_0 (ws : List (List AV)) (ra : Int) (rb : Int) (rc : Int) (ps : List (List AV)) (t4 : Bool) (t5 : Int) (t6 : Int) (t7 : Int) : Bool := match r65a ws ra rb rc ps t4 t5 t6 t7 with
  | some (.x0 _ _ _ _) => true
  | _ => false
noncomputable def v65a_0_t4' (ws : List (List AV)) (ra : Int) (rb : Int) (rc : Int) (ps : List (List AV)) (t4 : Bool) (t5 : Int) (t6 : Int) (t7 : Int) : Bool := match r65a ws ra rb rc ps t4 t5 t6 t7 with
  | some (.x0 t4' _ _ _) => t4'
  | _ => default
noncomputable def v65a_0_t5 (ws : List (List AV)) (ra : Int) (rb : Int) (rc : Int) (ps : List (List AV)) (t4 : Bool) (t5 : Int) (t6 : Int) (t7 : Int) : Int := match r65a ws ra rb rc ps t4 t5 t6 t7 with
  | some (.x0 _ t5 _ _) => t5
  | _ => default
noncomputable def v65a_0_t6 (ws : List (List AV)) (ra : Int) (rb : Int) (rc : Int) (ps : List (List AV)) (t4 : Bool) (t5 : Int) (t6 : Int) (t7 : Int) : Int := match r65a ws ra rb rc ps t4 t5 t6 t7 with
  | some (.x0 _ _ t6 _) => t6
  | _ => default
noncomputable def v65a_0_t7 (ws : List (List AV)) (ra : Int) (rb : Int) (rc : Int) (ps : List (List AV)) (t4 : Bool) (t5 : Int) (t6 : Int) (t7 : Int) : Int := match r65a ws ra rb rc ps t4 t5 t6 t7 with
  | some (.x0 _ _ _ t7) => t7
  | _ => default
noncomputable def i65a_1 (ws : List (List AV)) (ra : Int) (rb : Int) (rc : Int) (ps : List (List AV)) (t4 : Bool) (t5 : Int) (t6 : Int) (t7 : Int) : Bool := match r65a ws ra rb rc ps t4 t5 t6 t7 with
  | some (.x1 _ _ _) => true
  | _ => false
noncomputable def v65a_1_t5 (ws : List (List AV)) (ra : Int) (rb : Int) (rc : Int) (ps : List (List AV)) (t4 : Bool) (t5 : Int) (t6 : Int) (t7 : Int) : Int := match r65a ws ra rb rc ps t4 t5 t6 t7 with
  | some (.x1 t5 _ _) => t5
  | _ => default
noncomputable def v65a_1_t6 (ws : List (List AV)) (ra : Int) (rb : Int) (rc : Int) (ps : List (List AV)) (t4 : Bool) (t5 : Int) (t6 : Int) (t7 : Int) : Int := match r65a ws ra rb rc ps t4 t5 t6 t7 with
  | some (.x1 _ t6 _) => t6
  | _ => default
noncomputable def v65a_1_t7 (ws : List (List AV)) (ra : Int) (rb : Int) (rc : Int) (ps : List (List AV)) (t4 : Bool) (t5 : Int) (t6 : Int) (t7 : Int) : Int := match r65a ws ra rb rc ps t4 t5 t6 t7 with
  | some (.x1 _ _ t7) => t7
  | _ => default
noncomputable def l65a (st : St) : Option (List (Bool × Ex × St)) := match normW Try.prog [(1, none), (2, none), (4, none), (5, none), (6, none), (7, none)] 0 st with
  | some ([.rs 3 ws, .rp [.int .i64, .int .i64, .int .i64, .sl 31] [.i .i64 ra, .i .i64 rb, .i .i64 rc, .rs 31 ps] 0, .b t4, .i .i64 t5, .i .i64 t6, .i .i64 t7], [], 0, 64) => some [(i65a_0 ws ra rb rc ps t4 t5 t6 t7, .ret, o65a_0 ws ra rb rc ps t4 (v65a_0_t4' ws ra rb rc ps t4 t5 t6 t7) (v65a_0_t5 ws ra rb rc ps t4 t5 t6 t7) (v65a_0_t6 ws ra rb rc ps t4 t5 t6 t7) (v65a_0_t7 ws ra rb rc ps t4 t5 t6 t7)), (i65a_1 ws ra rb rc ps t4 t5 t6 t7, .ext 0, o65a_1 ws ra rb rc ps t4 (v65a_1_t5 ws ra rb rc ps t4 t5 t6 t7) (v65a_1_t6 ws ra rb rc ps t4 t5 t6 t7) (v65a_1_t7 ws ra rb rc ps t4 t5 t6 t7))]
  | _ => none
noncomputable def L65 : LSpec := fun p st => match p with
  | [false, true, false, true, true] => l65a st
  | _ => none
theorem is65a_0 (ws : List (List AV)) (ra : Int) (rb : Int) (rc : Int) (ps : List (List AV)) (t4 : Bool) (t5 : Int) (t6 : Int) (t7 : Int) (h : i65a_0 ws ra rb rc ps t4 t5 t6 t7 = true) : r65a ws ra rb rc ps t4 t5 t6 t7 = some (.x0 (v65a_0_t4' ws ra rb rc ps t4 t5 t6 t7) (v65a_0_t5 ws ra rb rc ps t4 t5 t6 t7) (v65a_0_t6 ws ra rb rc ps t4 t5 t6 t7) (v65a_0_t7 ws ra rb rc ps t4 t5 t6 t7)) := by
  unfold i65a_0 at h
  unfold v65a_0_t4' v65a_0_t5 v65a_0_t6 v65a_0_t7
  generalize r65a ws ra rb rc ps t4 t5 t6 t7 = r at h ⊢
  rcases r with _ | y
  · cases h
  · cases y <;> first | rfl | cases h
theorem is65a_1 (ws : List (List AV)) (ra : Int) (rb : Int) (rc : Int) (ps : List (List AV)) (t4 : Bool) (t5 : Int) (t6 : Int) (t7 : Int) (h : i65a_1 ws ra rb rc ps t4 t5 t6 t7 = true) : r65a ws ra rb rc ps t4 t5 t6 t7 = some (.x1 (v65a_1_t5 ws ra rb rc ps t4 t5 t6 t7) (v65a_1_t6 ws ra rb rc ps t4 t5 t6 t7) (v65a_1_t7 ws ra rb rc ps t4 t5 t6 t7)) := by
  unfold i65a_1 at h
  unfold v65a_1_t5 v65a_1_t6 v65a_1_t7
  generalize r65a ws ra rb rc ps t4 t5 t6 t7 = r at h ⊢
  rcases r with _ | y
  · cases h
  · cases y <;> first | rfl | cases h
theorem round65a (ws : List (List AV)) (ra : Int) (rb : Int) (rc : Int) (ps : List (List AV)) (t4 : Bool) (t5 : Int) (t6 : Int) (t7 : Int) : round Try.prog Sg (ro 65) L65 lp65a [false, true, false, true, true] [(1, none), (2, none), (4, none), (5, none), (6, none), (7, none)] 0 (s65a ws ra rb rc ps t4 t5 t6 t7) =
    cond (decide (t7 < (↑ws.length : Int))) (cond (inb t7 ws.length) (cond (g57 (fI (ws.getD t7.toNat []) 0) 0 (IntKind.i64.wrap ((↑ps.length : Int) - 1))) (cond (!w57_0 (fI (ws.getD t7.toNat []) 0) 0 (IntKind.i64.wrap ((↑ps.length : Int) - 1))) (some (.ret, o65a_0 ws ra rb rc ps t4 false t5 t6 t7)) (cond (inb t7 ws.length) (cond (inb (fI (ws.getD t7.toNat []) 0) ps.length) (cond (fI (ps.getD (fI (ws.getD t7.toNat []) 0).toNat []) 2 != t6) (some (.ret, o65a_0 ws ra rb rc ps t4 false t5 t6 t7)) (cond (decide (fI (ps.getD (fI (ws.getD t7.toNat []) 0).toNat []) 1 > IntKind.i64.wrap (ra - t5))) (some (.ret, o65a_0 ws ra rb rc ps t4 false t5 t6 t7)) (some (.nrm, s65a ws ra rb rc ps t4 (IntKind.i64.wrap (t5 + fI (ps.getD (fI (ws.getD t7.toNat []) 0).toNat []) 1)) (fI (ps.getD (fI (ws.getD t7.toNat []) 0).toNat []) 3) (IntKind.i64.wrap (t7 + 1)))))) (none)) (none))) (none)) (none)) (some (.ext 0, o65a_1 ws ra rb rc ps t4 t5 t6 t7)) := by kernel_rfl
theorem rnd65a (ws : List (List AV)) (ra : Int) (rb : Int) (rc : Int) (ps : List (List AV)) (t4 : Bool) (x : S65a) : round Try.prog Sg (ro 65) L65 lp65a [false, true, false, true, true] [(1, none), (2, none), (4, none), (5, none), (6, none), (7, none)] 0 ((fun x => s65a ws ra rb rc ps t4 x.t5 x.t6 x.t7) x) = toR (fun x => s65a ws ra rb rc ps t4 x.t5 x.t6 x.t7) (ou65a ws ra rb rc ps t4) (stp65a ws ra rb rc ps t4 x.t5 x.t6 x.t7) := by
  refine (round65a _ _ _ _ _ _ _ _ _ ).trans ?_
  unfold stp65a
  simp only [toR_cond]
  rfl
theorem lok65a {st : St} {outs : List (Bool × Ex × St)} {e : Ex} {s : St} (hl : l65a st = some outs) (hch : Chosen outs e s) :
    ∃ keep nb, 0 ≤ nb ∧ LB Try.prog Sg (ro 65) L65 lp65a [false, true, false, true, true] keep nb st e s := by
  unfold l65a at hl
  split at hl
  · rename_i ws ra rb rc ps t4 t5 t6 t7 hno
    cases hl
    have hno := normW_norm hno
    refine ⟨_, _, ?_, .enter hno ?_⟩
    · decide
    have main := fun y h => LB_run (x := (⟨t5, t6, t7⟩ : S65a)) (y := y) (nb := 0) (fun y => by cases y <;> simp [ou65a]) (rnd65a ws ra rb rc ps t4) h
    obtain ⟨x, hx, hg, rfl, rfl⟩ := chosen_any hch
    simp only [List.mem_cons, List.not_mem_nil, or_false] at hx
    rcases hx with rfl | rfl
    · exact main _ (is65a_0 ws ra rb rc ps t4 t5 t6 t7 hg)
    · exact main _ (is65a_1 ws ra rb rc ps t4 t5 t6 t7 hg)
  · cases hl
theorem L65_ok (q : Pl) (c : Code) (hq : locate c65 q.reverse = some (.loop c)) (st : St) (outs : List (Bool × Ex × St)) (e : Ex) (s : St) (hl : L65 q st = some outs) (hch : Chosen outs e s) :
    ∃ keep nb, 0 ≤ nb ∧ LB Try.prog Sg (ro 65) L65 c q keep nb st e s := by
  unfold L65 at hl
  split at hl
  · have : locate c65 ([false, true, false, true, true] : Pl).reverse = some (.loop lp65a) := by kernel_rfl
    rw [this] at hq
    cases hq
    exact lok65a hl hch
  · cases hl
theorem lok65 : LOK Try.prog Sg (ro 65) L65 0 false c65 [] :=
  lok_lo L65_ok c65 [] false (locate_nil _) (by kernel_rfl)
noncomputable def t65 (ra rb rc : Int) (ps : List (List AV)) (ws : List (List AV)) : Tr ((Bool)) :=
  .cn (i65a_0 ws ra rb rc ps false 0 rb 0) (.lf (v65a_0_t4' ws ra rb rc ps false 0 rb 0)) (.cn (i65a_1 ws ra rb rc ps false 0 rb 0) (.cn (v65a_1_t5 ws ra rb rc ps false 0 rb 0 == ra) (.lf (v65a_1_t6 ws ra rb rc ps false 0 rb 0 == rc)) (.lf (false))) (.nn))
noncomputable def g65 (ra rb rc : Int) (ps : List (List AV)) (ws : List (List AV)) : Bool := (t65 ra rb rc ps ws).g
noncomputable def w65_0 (ra rb rc : Int) (ps : List (List AV)) (ws : List (List AV)) : Bool := (t65 ra rb rc ps ws).val
theorem eq65 (ra rb rc : Int) (ps : List (List AV)) (ws : List (List AV)) : evF Try.prog Sg (ro 65) L65 Try.f65 [.agg [.i .i64 ra, .i .i64 rb, .i .i64 rc, .rs 31 ps], .rs 3 ws] = (t65 ra rb rc ps ws).opt (fun (x : (Bool)) => (.b x : AV)) := by kernel_rfl
theorem con65 (ra rb rc : Int) (ps : List (List AV)) (ws : List (List AV)) (h : g65 ra rb rc ps ws = true) : Con Try.prog 65 [.agg [.i .i64 ra, .i .i64 rb, .i .i64 rc, .rs 31 ps], .rs 3 ws] [] (.b (w65_0 ra rb rc ps ws)) [] :=
  con_of Sg_ok mixed Try.func65 (c := c65) rfl (names 65 _ Try.func65) lok65 ((eq65 ra rb rc ps ws).trans (Tr.sound _ _ h))
noncomputable def e65 (args : List AV) (rows : List Blk) : Option (Bool × AV × List Blk) := match args, rows with
  | [.agg [.i .i64 ra, .i .i64 rb, .i .i64 rc, .rs 31 ps], .rs 3 ws], [] => some (g65 ra rb rc ps ws, .b (w65_0 ra rb rc ps ws), [])
  | _, _ => none
theorem e65_ok (args : List AV) (rows : List Blk) (pre : Bool) (v : AV) (rows' : List Blk) (h : e65 args rows = some (pre, v, rows')) (hp : pre = true) : Con Try.prog 65 args rows v rows' := by
  unfold e65 at h
  split at h
  · cases h; exact con65 _ _ _ _ _ hp
  · cases h
-- SPEC 65
end Go.Proofs.Ytgifjphinkbcaaa

set_option maxRecDepth 100000
set_option linter.unusedVariables false
namespace Go.Proofs.Ytgifjphinkbcaaa
open Go Go.Ev
/-! ### Rows that fit -/
def isK (ps : List (List AV)) (k : Int) : Bool := decide (0 ≤ k) && decide (k ≤ (ps.length : Int) - 1)
def pk (ps : List (List AV)) (k : Int) : List AV := ps.getD k.toNat []
/-- Does a row fill a width from a profile on? -/
def fitsL (ps : List (List AV)) (c : Int) : Int → Int → List Int → Bool
  | n, b, [] => n == 0 && b == c
  | n, b, k :: ks => isK ps k && (fI (pk ps k) 2 == b && decide (fI (pk ps k) 1 ≤ n) && fitsL ps c (n - fI (pk ps k) 1) (fI (pk ps k) 3) ks)
def nums (ws : List (List AV)) : List Int := ws.map fun w => fI w 0
theorem nums_len (ws : List (List AV)) : (nums ws).length = ws.length := by simp [nums]
theorem nums_drop {ws : List (List AV)} {k : Nat} (h : k < ws.length) : (nums ws).drop k = fI (ws.getD k []) 0 :: (nums ws).drop (k + 1) := by
  unfold nums
  rw [← List.map_drop, ← List.map_drop, drop_cons [] h]
  rfl
theorem pk_mem {ps : List (List AV)} {k : Int} (h : isK ps k = true) : pk ps k ∈ ps := by
  simp only [isK, Bool.and_eq_true, decide_eq_true_eq] at h
  have hk : k.toNat < ps.length := by omega
  unfold pk
  simp only [List.getD_eq_getElem?_getD, List.getElem?_eq_getElem hk, Option.getD_some]
  exact List.getElem_mem hk
theorem pk_ok {ps : List (List AV)} (hps : okPs ps) {k : Int} (h : isK ps k = true) : okPc (pk ps k) := hps.2 _ (pk_mem h)
theorem isK_inb {ps : List (List AV)} {k : Int} (h : isK ps k = true) : inb k ps.length = true := by
  simp only [isK, Bool.and_eq_true, decide_eq_true_eq] at h
  obtain ⟨q, rfl⟩ : ∃ q : Nat, k = (q : Int) := ⟨k.toNat, by omega⟩
  rw [inb_nat]
  exact decide_eq_true (by omega)
theorem w71_all (q0 q1 : Int) (nm : ByteArray) (pa pb pc pd : Int) : w71_0 q0 q1 nm pa pb pc pd = IntKind.i64.wrap (q0 - pa) ∧ w71_1 q0 q1 nm pa pb pc pd = pc ∧ w71_2 q0 q1 nm pa pb pc pd = (pb == q1 && decide (pa ≤ q0)) := by
  unfold w71_0 w71_1 w71_2 t71
  cases pb == q1 <;> simp [Tr.val]
theorem len_pred {ps : List (List AV)} (h : ps.length ≤ 10) : IntKind.i64.wrap ((ps.length : Int) - 1) = (ps.length : Int) - 1 := wrap64 (by omega) (by omega)
theorem w55_isK (ps : List (List AV)) (k : Int) : w55_0 k 0 ((ps.length : Int) - 1) = isK ps k := by rw [w55_eq]; rfl
theorem fits_val {ra rb rc : Int} {ps ws : List (List AV)} (hF : Fine ra rb rc ps) (hw : ws.length < 9223372036854775807) : g64 ra rb rc ps ws = true ∧ w64_0 ra rb rc ps ws = fitsL ps rc ra rb (nums ws) := by
  have hl := hF.ps.1
  have run : ∃ y, r64a ra rb rc ps false ws (ws.length : Int) true 0 ra rb = some y ∧ (match y with
      | .x0 t _ _ _ _ => t = false ∧ fitsL ps rc ra rb ((nums ws).drop 0) = false
      | .x1 _ _ m0 m1 => (m0 == 0 && m1 == rc) = fitsL ps rc ra rb ((nums ws).drop 0)) := by
    unfold r64a
    refine run_for (S := Bool × Int × Int) ws.length (fun k s => (⟨s.1, (k : Int), s.2.1, s.2.2⟩ : S64a)) (fun _ s => 0 ≤ s.2.1 ∧ s.2.1 ≤ 2000) (fun k s (y : T64a) => match y with
      | .x0 t _ _ _ _ => t = false ∧ fitsL ps rc s.2.1 s.2.2 ((nums ws).drop k) = false
      | .x1 _ _ m0 m1 => (m0 == 0 && m1 == rc) = fitsL ps rc s.2.1 s.2.2 ((nums ws).drop k)) (fun k s hk hi => ?_) (fun s hi => ?_) 0 (true, ra, rb) (Nat.zero_le _) hF.a
    · obtain ⟨b, n, h⟩ := s
      simp only at hi
      show (∃ s', stp64a ra rb rc ps false ws (ws.length : Int) b (k : Int) n h = _ ∧ _) ∨ ∃ y, stp64a ra rb rc ps false ws (ws.length : Int) b (k : Int) n h = _ ∧ _
      unfold stp64a
      rw [Int.toNat_natCast]
      simp only [lt_true hk, inb_true hk, cond_true, wrap_succ (show k < 9223372036854775807 by omega), g55_true, len_pred hl, w55_isK, g71_true, w71_all]
      rw [nums_drop hk]
      generalize fI (ws.getD k []) 0 = v
      cases hv : isK ps v with
      | false =>
        refine .inr ⟨_, rfl, rfl, ?_⟩
        show (isK ps v && _) = false
        rw [hv]; rfl
      | true =>
        obtain ⟨b1, b2, b3, b4, b5, b6⟩ := pk_ok hF.ps hv
        simp only [Bool.not_true, cond_false, isK_inb hv, cond_true]
        have hp : ps.getD v.toNat [] = pk ps v := rfl
        rw [hp]
        cases hc : (fI (pk ps v) 2 == h && decide (fI (pk ps v) 1 ≤ n)) with
        | false =>
          refine .inr ⟨_, rfl, rfl, ?_⟩
          show (isK ps v && (fI (pk ps v) 2 == h && decide (fI (pk ps v) 1 ≤ n) && _)) = false
          rw [hv, hc]; rfl
        | true =>
          have h2 : fI (pk ps v) 1 ≤ n := by
            simp only [Bool.and_eq_true, decide_eq_true_eq] at hc
            exact hc.2
          rw [wrap64 (by omega) (by omega)]
          have hf : fitsL ps rc n h (v :: (nums ws).drop (k + 1)) = fitsL ps rc (n - fI (pk ps v) 1) (fI (pk ps v) 3) ((nums ws).drop (k + 1)) := by
            show (isK ps v && (fI (pk ps v) 2 == h && decide (fI (pk ps v) 1 ≤ n) && _)) = _
            rw [hv, hc]
            simp
          refine .inl ⟨(true, n - fI (pk ps v) 1, fI (pk ps v) 3), rfl, ⟨?_, ?_⟩, fun y hy => ?_⟩
          · show 0 ≤ n - fI (pk ps v) 1
            omega
          · show n - fI (pk ps v) 1 ≤ 2000
            omega
          · simp only [hf]
            exact hy
    · obtain ⟨b, n, h⟩ := s
      refine ⟨.x1 b (ws.length : Int) n h, ?_, ?_⟩
      · show stp64a ra rb rc ps false ws (ws.length : Int) b (ws.length : Int) n h = _
        unfold stp64a
        rw [lt_false]; rfl
      · show (n == 0 && h == rc) = fitsL ps rc n h ((nums ws).drop ws.length)
        rw [List.drop_of_length_le (by rw [nums_len]; exact Nat.le_refl _)]
        rfl
  obtain ⟨y, hy, hv⟩ := run
  have p0 : w52_0 ra rb rc ps = ra := rfl
  have p1 : w52_1 ra rb rc ps = rb := rfl
  unfold g64 w64_0 t64 i64a_0 i64a_1 v64a_0_t4' v64a_1_m4_0 v64a_1_m4_1
  rw [p0, p1, hy]
  rw [List.drop_zero] at hv
  cases y with
  | x0 t _ _ _ _ => exact ⟨rfl, hv.1.trans hv.2.symm⟩
  | x1 _ _ m0 m1 => exact ⟨rfl, hv⟩
theorem rfits_val {ra rb rc : Int} {ps ws : List (List AV)} (hF : Fine ra rb rc ps) (hw : ws.length < 9223372036854775807) : g65 ra rb rc ps ws = true ∧ w65_0 ra rb rc ps ws = fitsL ps rc ra rb (nums ws) := by
  have hl := hF.ps.1
  have ha := hF.a
  have run : ∃ y, r65a ws ra rb rc ps false 0 rb 0 = some y ∧ (match y with
      | .x0 t _ _ _ => t = false ∧ fitsL ps rc (ra - 0) rb ((nums ws).drop 0) = false
      | .x1 m0 m1 _ => (m0 == ra && m1 == rc) = fitsL ps rc (ra - 0) rb ((nums ws).drop 0)) := by
    unfold r65a
    refine run_for (S := Int × Int) ws.length (fun k s => (⟨s.1, s.2, (k : Int)⟩ : S65a)) (fun _ s => 0 ≤ s.1 ∧ s.1 ≤ ra) (fun k s (y : T65a) => match y with
      | .x0 t _ _ _ => t = false ∧ fitsL ps rc (ra - s.1) s.2 ((nums ws).drop k) = false
      | .x1 m0 m1 _ => (m0 == ra && m1 == rc) = fitsL ps rc (ra - s.1) s.2 ((nums ws).drop k)) (fun k s hk hi => ?_) (fun s hi => ?_) 0 (0, rb) (Nat.zero_le _) ⟨by show (0 : Int) ≤ 0; omega, ha.1⟩
    · obtain ⟨n, h⟩ := s
      simp only at hi
      show (∃ s', stp65a ws ra rb rc ps false n h (k : Int) = _ ∧ _) ∨ ∃ y, stp65a ws ra rb rc ps false n h (k : Int) = _ ∧ _
      unfold stp65a
      rw [Int.toNat_natCast]
      simp only [lt_true hk, inb_true hk, cond_true, wrap_succ (show k < 9223372036854775807 by omega), (w57_eq _ _ _).1, g55_57, len_pred hl, w55_isK]
      rw [nums_drop hk]
      generalize fI (ws.getD k []) 0 = v
      cases hv : isK ps v with
      | false =>
        refine .inr ⟨_, rfl, rfl, ?_⟩
        show (isK ps v && _) = false
        rw [hv]; rfl
      | true =>
        obtain ⟨b1, b2, b3, b4, b5, b6⟩ := pk_ok hF.ps hv
        simp only [Bool.not_true, cond_false, isK_inb hv, cond_true]
        have hp : ps.getD v.toNat [] = pk ps v := rfl
        rw [hp, wrap64 (x := ra - n) (by omega) (by omega)]
        cases hc : (fI (pk ps v) 2 != h) with
        | true =>
          refine .inr ⟨_, rfl, rfl, ?_⟩
          have hc : ¬ fI (pk ps v) 2 = h := by simpa using hc
          show (isK ps v && (fI (pk ps v) 2 == h && decide (fI (pk ps v) 1 ≤ _) && _)) = false
          simp [hc]
        | false =>
          have hc : fI (pk ps v) 2 = h := by simpa using hc
          by_cases hd : fI (pk ps v) 1 > ra - n
          · rw [decide_eq_true hd]
            refine .inr ⟨_, rfl, rfl, ?_⟩
            show (isK ps v && (fI (pk ps v) 2 == h && decide (fI (pk ps v) 1 ≤ ra - n) && _)) = false
            have : decide (fI (pk ps v) 1 ≤ ra - n) = false := decide_eq_false (by omega)
            rw [this]; simp
          · rw [decide_eq_false hd, wrap64 (x := n + fI (pk ps v) 1) (by omega) (by omega)]
            have hf : fitsL ps rc (ra - n) h (v :: (nums ws).drop (k + 1)) = fitsL ps rc (ra - (n + fI (pk ps v) 1)) (fI (pk ps v) 3) ((nums ws).drop (k + 1)) := by
              show (isK ps v && (fI (pk ps v) 2 == h && decide (fI (pk ps v) 1 ≤ ra - n) && fitsL ps rc (ra - n - fI (pk ps v) 1) (fI (pk ps v) 3) _)) = _
              have : decide (fI (pk ps v) 1 ≤ ra - n) = true := decide_eq_true (by omega)
              rw [hv, this, hc, show ra - n - fI (pk ps v) 1 = ra - (n + fI (pk ps v) 1) by omega]
              simp
            refine .inl ⟨(n + fI (pk ps v) 1, fI (pk ps v) 3), rfl, ⟨?_, ?_⟩, fun y hy => ?_⟩
            · show 0 ≤ n + fI (pk ps v) 1
              omega
            · show n + fI (pk ps v) 1 ≤ ra
              omega
            · simp only [hf]
              exact hy
    · obtain ⟨n, h⟩ := s
      refine ⟨.x1 n h (ws.length : Int), ?_, ?_⟩
      · show stp65a ws ra rb rc ps false n h (ws.length : Int) = _
        unfold stp65a
        rw [lt_false]; rfl
      · show (n == ra && h == rc) = fitsL ps rc (ra - n) h ((nums ws).drop ws.length)
        rw [List.drop_of_length_le (by rw [nums_len]; exact Nat.le_refl _)]
        show _ = (ra - n == 0 && h == rc)
        congr 1
        rw [Bool.eq_iff_iff]
        simp
        omega
  obtain ⟨y, hy, hv⟩ := run
  unfold g65 w65_0 t65 i65a_0 i65a_1 v65a_0_t4' v65a_1_t5 v65a_1_t6
  rw [hy]
  rw [List.drop_zero, Int.sub_zero] at hv
  cases y with
  | x0 t _ _ _ => exact ⟨rfl, hv.1.trans hv.2.symm⟩
  | x1 m0 m1 _ =>
    simp only at hv
    rw [← hv]
    cases h : m0 == ra with
    | false => simp [Tr.g, Tr.val]
    | true => simp [Tr.g, Tr.val]
end Go.Proofs.Ytgifjphinkbcaaa

set_option maxRecDepth 100000
set_option linter.unusedVariables false
namespace Go.Proofs.Ytgifjphinkbcaaa
open Go Go.Ev
theorem WT_int {a : AV} {k : IntKind} (h : WT Try.prog (.int k) a) : ∃ n, a = .i k n ∧ k.min ≤ n ∧ n ≤ k.max := by
  cases h with
  | int h1 h2 => exact ⟨_, rfl, h1, h2⟩
theorem WT_sl {a : AV} {e : TypeId} (h : WT Try.prog (.sl e) a) : ∃ es, a = .rs e es ∧ es.length ≤ 9223372036854775807 ∧ (∀ x, x ∈ es → x.length = (cts Try.prog e).length) ∧ (∀ x, x ∈ es → ∀ j, j < x.length → WT Try.prog ((cts Try.prog e).getD j .oth) (x.getD j .u)) := by
  cases h with
  | sl h1 h2 h3 => exact ⟨_, rfl, h1, h2, h3⟩
theorem ty_agg {a : AV} {t : TypeId} {c : List CT} (hA : Ev.isAgg Try.prog t = true) (hc : cts Try.prog t = c) (h : TyArg Try.prog t a) : ∃ bs, a = .agg bs ∧ WTs Try.prog c bs := by
  rcases h with ⟨_, as1, rfl, h⟩ | ⟨h, _⟩
  · exact ⟨as1, rfl, hc ▸ h⟩
  · rw [hA] at h; cases h
theorem ty_one {a : AV} {t : TypeId} {c : CT} (hA : Ev.isAgg Try.prog t = false) (hc : (cts Try.prog t).headD .oth = c) (h : TyArg Try.prog t a) : WT Try.prog c a := by
  rcases h with ⟨h, _⟩ | ⟨_, h⟩
  · rw [hA] at h; cases h
  · exact hc ▸ h
theorem WTs_cons {c : CT} {cs : List CT} {bs : List AV} (h : WTs Try.prog (c :: cs) bs) : ∃ a r, bs = a :: r ∧ WT Try.prog c a ∧ WTs Try.prog cs r := by
  obtain ⟨h1, h2⟩ := h
  cases bs with
  | nil => simp at h1
  | cons a r =>
    refine ⟨a, r, rfl, by simpa using h2 0 (by simp), by simpa using h1, fun j hj => ?_⟩
    simpa using h2 (j + 1) (by simpa using hj)
theorem WTs_nil {bs : List AV} (h : WTs Try.prog [] bs) : bs = [] := by simpa using h.1
theorem tyArgs_cons {t : TypeId} {ts : List TypeId} {bs : List AV} (h : TyArgs Try.prog (t :: ts) bs) : ∃ a r, bs = a :: r ∧ TyArg Try.prog t a ∧ TyArgs Try.prog ts r := by
  cases bs with
  | nil => cases h
  | cons a r => exact ⟨a, r, rfl, h.1, h.2⟩
theorem tyArgs_nil {bs : List AV} (h : TyArgs Try.prog [] bs) : bs = [] := by
  cases bs with
  | nil => rfl
  | cons a r => cases h
/-- A Ridge that is handed in. -/
theorem ridge_of {a : AV} (h : TyArg Try.prog 24 a) : ∃ ra rb rc ps, a = .agg [.i .i64 ra, .i .i64 rb, .i .i64 rc, .rs 31 ps] ∧ ps.length ≤ 9223372036854775807 ∧ (∀ x, x ∈ ps → x.length = (cts Try.prog 31).length) ∧ (∀ x, x ∈ ps → ∀ j, j < x.length → WT Try.prog ((cts Try.prog 31).getD j .oth) (x.getD j .u)) ∧
    (IntKind.i64.min ≤ ra ∧ ra ≤ IntKind.i64.max) ∧ (IntKind.i64.min ≤ rb ∧ rb ≤ IntKind.i64.max) ∧ (IntKind.i64.min ≤ rc ∧ rc ≤ IntKind.i64.max) := by
  obtain ⟨bs, rfl, hw⟩ := ty_agg (c := [.int .i64, .int .i64, .int .i64, .sl 31]) (by kernel_rfl) (by kernel_rfl) h
  obtain ⟨b0, q0, rfl, w0, hw⟩ := WTs_cons hw
  obtain ⟨b1, q1, rfl, w1, hw⟩ := WTs_cons hw
  obtain ⟨b2, q2, rfl, w2, hw⟩ := WTs_cons hw
  obtain ⟨b3, q3, rfl, w3, hw⟩ := WTs_cons hw
  obtain rfl := WTs_nil hw
  obtain ⟨ra, rfl, r1⟩ := WT_int w0
  obtain ⟨rb, rfl, r2⟩ := WT_int w1
  obtain ⟨rc, rfl, r3⟩ := WT_int w2
  obtain ⟨ps, rfl, r4, r5, r6⟩ := WT_sl w3
  exact ⟨ra, rb, rc, ps, rfl, r4, r5, r6, r1, r2, r3⟩
end Go.Proofs.Ytgifjphinkbcaaa

set_option maxRecDepth 100000
set_option linter.unusedVariables false
namespace Go.Proofs.Ytgifjphinkbcaaa
open Go Go.Ev
/-! ### Lists of numbers -/
def ones (f : Nat → Int) (N : Nat) : List (List AV) := (List.range N).map fun j => [.i .i64 (f j)]
theorem ones_len (f : Nat → Int) (N : Nat) : (ones f N).length = N := by simp [ones]
theorem ones_get {f : Nat → Int} {N k : Nat} (h : k < N) : (ones f N).getD k [] = [.i .i64 (f k)] := by
  simp [ones, List.getD_eq_getElem?_getD, h]
theorem ones_set {f : Nat → Int} {N k : Nat} {v : Int} (h : k < N) : (ones f N).set k [.i .i64 v] = ones (upd f k v) N := by
  apply List.ext_getElem
  · simp [ones]
  · intro i h1 h2
    have hi : i < N := by simpa [ones] using h1
    simp only [ones, List.getElem_set, List.getElem_map, List.getElem_range, upd]
    by_cases e : k = i
    · subst e; simp
    · simp [e, Ne.symm e]
theorem ones_zero (N : Nat) : List.replicate N [AV.i .i64 0] = ones (fun _ => 0) N := by
  apply List.ext_getElem
  · simp [ones]
  · intro i h1 h2
    simp only [ones, List.getElem_replicate, List.getElem_map]
theorem drop_mem {α : Type} {l : List α} {k : Nat} (d : α) (h : k < l.length) : l.getD k d ∈ l := by
  simp only [List.getD_eq_getElem?_getD, List.getElem?_eq_getElem h, Option.getD_some]
  exact List.getElem_mem h
/-- Equal lists of numbers. -/
theorem same_refl {xs : List (List AV)} (hx : xs.length < 9223372036854775807) : g28 xs xs = true ∧ w28_0 xs xs = true := by
  have run : ∃ y, r28a xs xs false 0 = some y ∧ y = .x1 (xs.length : Int) := by
    unfold r28a
    refine run_for (S := Unit) xs.length (fun k _ => (⟨(k : Int)⟩ : S28a)) (fun _ _ => True) (fun k f (y : T28a) => y = .x1 (xs.length : Int)) (fun k f hk hf => .inl ⟨(), ?_, trivial, fun y hy => hy⟩) (fun f hf => ⟨_, ?_, rfl⟩) 0 () (Nat.zero_le _) trivial
    · show stp28a xs xs false (k : Int) = _
      unfold stp28a
      have : (fI (xs.getD k []) 0 != fI (xs.getD k []) 0) = false := by simp
      simp only [lt_true hk, inb_true hk, cond_true, cond_false, Int.toNat_natCast, wrap_succ (show k < 9223372036854775807 by omega), this]
    · show stp28a xs xs false (xs.length : Int) = _
      unfold stp28a
      rw [lt_false]; rfl
  obtain ⟨y, h1, h2⟩ := run
  have h0 : ((xs.length : Int) != (xs.length : Int)) = false := by simp
  unfold g28 w28_0 t28 i28a_0 i28a_1
  rw [h0, h1, h2]
  exact ⟨rfl, rfl⟩
def rowAV (row : List Nat) : List (List AV) := row.map fun (i : Nat) => [.i .i64 (i : Int)]
theorem rowAV_len (row : List Nat) : (rowAV row).length = row.length := by simp [rowAV]
theorem ints_of {a : AV} (h : TyArg Try.prog 36 a) : ∃ ws, a = .rs 3 ws ∧ ws.length ≤ 9223372036854775807 ∧ (∀ x, x ∈ ws → x.length = (cts Try.prog 3).length) ∧ (∀ x, x ∈ ws → ∀ j, j < x.length → WT Try.prog ((cts Try.prog 3).getD j .oth) (x.getD j .u)) :=
  WT_sl (ty_one (c := .sl 3) (by kernel_rfl) (by kernel_rfl) h)
theorem int_of {a : AV} (h : TyArg Try.prog 3 a) : ∃ x, a = .i .i64 x ∧ IntKind.i64.min ≤ x ∧ x ≤ IntKind.i64.max :=
  WT_int (ty_one (c := .int .i64) (by kernel_rfl) (by kernel_rfl) h)
end Go.Proofs.Ytgifjphinkbcaaa

set_option maxRecDepth 100000
set_option linter.unusedVariables false
namespace Go.Proofs.Ytgifjphinkbcaaa
open Go Go.Ev

/-! ### Ways -/
noncomputable def c20 : Code := match Try.f20.body with | some c => c | _ => .skip
theorem lok20 : LOK Try.prog Sg (ro 20) (fun _ _ => none) 0 false c20 [] :=
  lok_lo (fun _ _ _ _ _ _ _ h _ => by cases h) c20 [] false (locate_nil _) (by kernel_rfl)
noncomputable def t20 (ra rb rc : Int) (ps : List (List AV)) : Tr ((Int) × (Int)) :=
  .cn (g50 ra rb rc ps) (.cn (w50_1 ra rb rc ps != 0) (.lf (0, w50_1 ra rb rc ps)) (.cn (g51 (w50_0 ra rb rc ps) (w52_0 ra rb rc ps) (w52_1 ra rb rc ps)) (.lf (w51_0 (w50_0 ra rb rc ps) (w52_0 ra rb rc ps) (w52_1 ra rb rc ps), 0)) (.nn))) (.nn)
noncomputable def g20 (ra rb rc : Int) (ps : List (List AV)) : Bool := (t20 ra rb rc ps).g
noncomputable def w20_0 (ra rb rc : Int) (ps : List (List AV)) : Int := (t20 ra rb rc ps).val.1
noncomputable def w20_1 (ra rb rc : Int) (ps : List (List AV)) : Int := (t20 ra rb rc ps).val.2
theorem eq20 (ra rb rc : Int) (ps : List (List AV)) : evF Try.prog Sg (ro 20) (fun _ _ => none) Try.f20 [.agg [.i .i64 ra, .i .i64 rb, .i .i64 rc, .rs 31 ps]] = (t20 ra rb rc ps).opt (fun (x : (Int) × (Int)) => (.tup [.i .i64 x.1, .i .i64 x.2] : AV)) := by kernel_rfl
theorem con20 (ra rb rc : Int) (ps : List (List AV)) (h : g20 ra rb rc ps = true) : Con Try.prog 20 [.agg [.i .i64 ra, .i .i64 rb, .i .i64 rc, .rs 31 ps]] [] (.tup [.i .i64 (w20_0 ra rb rc ps), .i .i64 (w20_1 ra rb rc ps)]) [] :=
  con_of Sg_ok mixed Try.func20 (c := c20) rfl (names 20 _ Try.func20) lok20 ((eq20 ra rb rc ps).trans (Tr.sound _ _ h))
noncomputable def e20 (args : List AV) (rows : List Blk) : Option (Bool × AV × List Blk) := match args, rows with
  | [.agg [.i .i64 ra, .i .i64 rb, .i .i64 rc, .rs 31 ps]], [] => some (g20 ra rb rc ps, .tup [.i .i64 (w20_0 ra rb rc ps), .i .i64 (w20_1 ra rb rc ps)], [])
  | _, _ => none
theorem e20_ok (args : List AV) (rows : List Blk) (pre : Bool) (v : AV) (rows' : List Blk) (h : e20 args rows = some (pre, v, rows')) (hp : pre = true) : Con Try.prog 20 args rows v rows' := by
  unfold e20 at h
  split at h
  · cases h; exact con20 _ _ _ _ hp
  · cases h
-- SPEC 20
end Go.Proofs.Ytgifjphinkbcaaa

set_option maxRecDepth 100000
set_option linter.unusedVariables false
namespace Go.Proofs.Ytgifjphinkbcaaa
open Go Go.Ev

/-! ### ref counted -/
noncomputable def c67 : Code := match Try.f67.body with | some c => c | _ => .skip
theorem lok67 : LOK Try.prog Sg (ro 67) (fun _ _ => none) 0 false c67 [] :=
  lok_lo (fun _ _ _ _ _ _ _ h _ => by cases h) c67 [] false (locate_nil _) (by kernel_rfl)
noncomputable def t67 (ra rb rc : Int) (ps : List (List AV)) : Tr ((List (List AV)) × (Int)) :=
  .cn (g33 ra rb rc ps) (.cn (w33_0 ra rb rc ps != 0) (.lf ([], w33_0 ra rb rc ps)) (.cn (g87 ra rb rc ps) (.cn (inb ra (w87_0 ra rb rc ps).length) (.cn (inb rb 10) (.cn (ctsAt (cts Try.prog 91) (0 + rb.toNat * 1) (cts Try.prog 3)) (.cn (decide (toI (((w87_0 ra rb rc ps).getD ra.toNat []).getD (0 + rb.toNat * 1) AV.u) > 1000000000000000)) (.lf ([], 3)) (.lf (w87_0 ra rb rc ps, 0))) (.nn)) (.nn)) (.nn)) (.nn))) (.nn)
noncomputable def g67 (ra rb rc : Int) (ps : List (List AV)) : Bool := (t67 ra rb rc ps).g
noncomputable def w67_0 (ra rb rc : Int) (ps : List (List AV)) : List (List AV) := (t67 ra rb rc ps).val.1
noncomputable def w67_1 (ra rb rc : Int) (ps : List (List AV)) : Int := (t67 ra rb rc ps).val.2
noncomputable def a67 (ra rb rc : Int) (ps : List (List AV)) : Tr AV :=
  .cn (g33 ra rb rc ps) (.cn (w33_0 ra rb rc ps != 0) (.lf (.tup [.nl, .i .i64 (w33_0 ra rb rc ps)])) (.cn (g87 ra rb rc ps) (.cn (inb ra (w87_0 ra rb rc ps).length) (.cn (inb rb 10) (.cn (ctsAt (cts Try.prog 91) (0 + rb.toNat * 1) (cts Try.prog 3)) (.cn (decide (toI (((w87_0 ra rb rc ps).getD ra.toNat []).getD (0 + rb.toNat * 1) AV.u) > 1000000000000000)) (.lf (.tup [.nl, .i .i64 3])) (.lf (.tup [.rs 91 (w87_0 ra rb rc ps), .i .i64 0]))) (.nn)) (.nn)) (.nn)) (.nn))) (.nn)
theorem eq67 (ra rb rc : Int) (ps : List (List AV)) : evF Try.prog Sg (ro 67) (fun _ _ => none) Try.f67 [.agg [.i .i64 ra, .i .i64 rb, .i .i64 rc, .rs 31 ps]] = (a67 ra rb rc ps).opt id := by kernel_rfl
theorem wk67 (ra rb rc : Int) (ps : List (List AV)) : (a67 ra rb rc ps).map (wkV [some 91, none]) = (t67 ra rb rc ps).map (fun (x : (List (List AV)) × (Int)) => (.tup [.rs 91 x.1, .i .i64 x.2] : AV)) := by kernel_rfl
theorem con67 (ra rb rc : Int) (ps : List (List AV)) (h : g67 ra rb rc ps = true) : Con Try.prog 67 [.agg [.i .i64 ra, .i .i64 rb, .i .i64 rc, .rs 31 ps]] [] (.tup [.rs 91 (w67_0 ra rb rc ps), .i .i64 (w67_1 ra rb rc ps)]) [] := by
  obtain ⟨v, h1, h2⟩ := Tr.soundW (eq67 ra rb rc ps) (wk67 ra rb rc ps) h
  have := (con_of Sg_ok mixed Try.func67 (c := c67) rfl (names 67 _ Try.func67) lok67 h1).wk [some 91, none]
  rw [h2] at this
  exact this
noncomputable def e67 (args : List AV) (rows : List Blk) : Option (Bool × AV × List Blk) := match args, rows with
  | [.agg [.i .i64 ra, .i .i64 rb, .i .i64 rc, .rs 31 ps]], [] => some (g67 ra rb rc ps, .tup [.rs 91 (w67_0 ra rb rc ps), .i .i64 (w67_1 ra rb rc ps)], [])
  | _, _ => none
theorem e67_ok (args : List AV) (rows : List Blk) (pre : Bool) (v : AV) (rows' : List Blk) (h : e67 args rows = some (pre, v, rows')) (hp : pre = true) : Con Try.prog 67 args rows v rows' := by
  unfold e67 at h
  split at h
  · cases h; exact con67 _ _ _ _ hp
  · cases h
-- SPEC 67
end Go.Proofs.Ytgifjphinkbcaaa

set_option maxRecDepth 100000
set_option linter.unusedVariables false
namespace Go.Proofs.Ytgifjphinkbcaaa
open Go Go.Ev

/-! ### before -/
noncomputable def c44 : Code := match Try.f44.body with | some c => c | _ => .skip
noncomputable def lp44a : Code := loopAt c44 [true, false, true, false]
noncomputable def s44a (xs : List (List AV)) (ys : List (List AV)) (t4 : Bool) (t5 : Int) : St :=
  { t := [(0, .rs 3 xs), (1, .rs 3 ys), (4, .b t4), (5, .i .i64 t5)], m := [], nx := 0, nt := 41 }
structure S44a where
  t5 : Int
inductive T44a where
  | x0 (t4' : Bool) (t5 : Int)
  | x1 (t5 : Int)
noncomputable def stp44a (xs : List (List AV)) (ys : List (List AV)) (t4 : Bool) (t5 : Int) : Lp S44a T44a :=
  cond (decide (t5 < (↑xs.length : Int))) (cond (decide (t5 < (↑ys.length : Int))) (cond (inb t5 xs.length) (cond (inb t5 ys.length) (cond (fI (xs.getD t5.toNat []) 0 != fI (ys.getD t5.toNat []) 0) (cond (inb t5 xs.length) (cond (inb t5 ys.length) (.out (.x0 (decide (fI (xs.getD t5.toNat []) 0 < fI (ys.getD t5.toNat []) 0)) t5)) (.bad)) (.bad)) (.go ⟨IntKind.i64.wrap (t5 + 1)⟩)) (.bad)) (.bad)) (.out (.x1 t5))) (.out (.x1 t5))
noncomputable def o44a_0 (xs : List (List AV)) (ys : List (List AV)) (t4 : Bool) (t4' : Bool) (t5 : Int) : St :=
  { t := [(0, .rs 3 xs), (1, .rs 3 ys), (4, .b t4'), (5, .i .i64 t5)], m := [], nx := 0, nt := 41 }
noncomputable def o44a_1 (xs : List (List AV)) (ys : List (List AV)) (t4 : Bool) (t5 : Int) : St :=
  { t := [(0, .rs 3 xs), (1, .rs 3 ys), (4, .b t4), (5, .i .i64 t5)], m := [], nx := 0, nt := 41 }
noncomputable def ou44a (xs : List (List AV)) (ys : List (List AV)) (t4 : Bool) : T44a → Ex × St
  | .x0 t4' t5 => (.ret, o44a_0 xs ys t4 t4' t5)
  | .x1 t5 => (.ext 0, o44a_1 xs ys t4 t5)
noncomputable def r44a (xs : List (List AV)) (ys : List (List AV)) (t4 : Bool) (t5 : Int) : Option T44a := run (fun x => stp44a xs ys t4 x.t5) (⟨t5⟩ : S44a)
noncomputable def i44a_0 (xs : List (List AV)) (ys : List (List AV)) (t4 : Bool) (t5 : Int) : Bool := match r44a xs ys t4 t5 with
  | some (.x0 _ _) => true
  | _ => false
noncomputable def v44a_0_t4' (xs : List (List AV)) (ys : List (List AV)) (t4 : Bool) (t5 : Int) : Bool := match r44a xs ys t4 t5 with
  | some (.x0 t4' _) => t4'
  | _ => default
noncomputable def v44a_0_t5 (xs : List (List AV)) (ys : List (List AV)) (t4 : Bool) (t5 : Int) : Int := match r44a xs ys t4 t5 with
  | some (.x0 _ t5) => t5
  | _ => default
noncomputable def i44a_1 (xs : List (List AV)) (ys : List (List AV)) (t4 : Bool) (t5 : Int) : Bool := match r44a xs ys t4 t5 with
  | some (.x1 _) => true
  | _ => false
noncomputable def v44a_1_t5 (xs : List (List AV)) (ys : List (List AV)) (t4 : Bool) (t5 : Int) : Int := match r44a xs ys t4 t5 with
  | some (.x1 t5) => t5
  | _ => default
noncomputable def l44a (st : St) : Option (List (Bool × Ex × St)) := match normW Try.prog [(0, none), (1, none), (4, none), (5, none)] 0 st with
  | some ([.rs 3 xs, .rs 3 ys, .b t4, .i .i64 t5], [], 0, 41) => some [(i44a_0 xs ys t4 t5, .ret, o44a_0 xs ys t4 (v44a_0_t4' xs ys t4 t5) (v44a_0_t5 xs ys t4 t5)), (i44a_1 xs ys t4 t5, .ext 0, o44a_1 xs ys t4 (v44a_1_t5 xs ys t4 t5))]
  | _ => none
noncomputable def L44 : LSpec := fun p st => match p with
  | [false, true, false, true] => l44a st
  | _ => none
theorem is44a_0 (xs : List (List AV)) (ys : List (List AV)) (t4 : Bool) (t5 : Int) (h : i44a_0 xs ys t4 t5 = true) : r44a xs ys t4 t5 = some (.x0 (v44a_0_t4' xs ys t4 t5) (v44a_0_t5 xs ys t4 t5)) := by
  unfold i44a_0 at h
  unfold v44a_0_t4' v44a_0_t5
  generalize r44a xs ys t4 t5 = r at h ⊢
  rcases r with _ | y
  · cases h
  · cases y <;> first | rfl | cases h
theorem is44a_1 (xs : List (List AV)) (ys : List (List AV)) (t4 : Bool) (t5 : Int) (h : i44a_1 xs ys t4 t5 = true) : r44a xs ys t4 t5 = some (.x1 (v44a_1_t5 xs ys t4 t5)) := by
  unfold i44a_1 at h
  unfold v44a_1_t5
  generalize r44a xs ys t4 t5 = r at h ⊢
  rcases r with _ | y
  · cases h
  · cases y <;> first | rfl | cases h
theorem round44a (xs : List (List AV)) (ys : List (List AV)) (t4 : Bool) (t5 : Int) : round Try.prog Sg (ro 44) L44 lp44a [false, true, false, true] [(0, none), (1, none), (4, none), (5, none)] 0 (s44a xs ys t4 t5) =
    cond (decide (t5 < (↑xs.length : Int))) (cond (decide (t5 < (↑ys.length : Int))) (cond (inb t5 xs.length) (cond (inb t5 ys.length) (cond (fI (xs.getD t5.toNat []) 0 != fI (ys.getD t5.toNat []) 0) (cond (inb t5 xs.length) (cond (inb t5 ys.length) (some (.ret, o44a_0 xs ys t4 (decide (fI (xs.getD t5.toNat []) 0 < fI (ys.getD t5.toNat []) 0)) t5)) (none)) (none)) (some (.nrm, s44a xs ys t4 (IntKind.i64.wrap (t5 + 1))))) (none)) (none)) (some (.ext 0, o44a_1 xs ys t4 t5))) (some (.ext 0, o44a_1 xs ys t4 t5)) := by kernel_rfl
theorem rnd44a (xs : List (List AV)) (ys : List (List AV)) (t4 : Bool) (x : S44a) : round Try.prog Sg (ro 44) L44 lp44a [false, true, false, true] [(0, none), (1, none), (4, none), (5, none)] 0 ((fun x => s44a xs ys t4 x.t5) x) = toR (fun x => s44a xs ys t4 x.t5) (ou44a xs ys t4) (stp44a xs ys t4 x.t5) := by
  refine (round44a _ _ _ _ ).trans ?_
  unfold stp44a
  simp only [toR_cond]
  rfl
theorem lok44a {st : St} {outs : List (Bool × Ex × St)} {e : Ex} {s : St} (hl : l44a st = some outs) (hch : Chosen outs e s) :
    ∃ keep nb, 0 ≤ nb ∧ LB Try.prog Sg (ro 44) L44 lp44a [false, true, false, true] keep nb st e s := by
  unfold l44a at hl
  split at hl
  · rename_i xs ys t4 t5 hno
    cases hl
    have hno := normW_norm hno
    refine ⟨_, _, ?_, .enter hno ?_⟩
    · decide
    have main := fun y h => LB_run (x := (⟨t5⟩ : S44a)) (y := y) (nb := 0) (fun y => by cases y <;> simp [ou44a]) (rnd44a xs ys t4) h
    obtain ⟨x, hx, hg, rfl, rfl⟩ := chosen_any hch
    simp only [List.mem_cons, List.not_mem_nil, or_false] at hx
    rcases hx with rfl | rfl
    · exact main _ (is44a_0 xs ys t4 t5 hg)
    · exact main _ (is44a_1 xs ys t4 t5 hg)
  · cases hl
theorem L44_ok (q : Pl) (c : Code) (hq : locate c44 q.reverse = some (.loop c)) (st : St) (outs : List (Bool × Ex × St)) (e : Ex) (s : St) (hl : L44 q st = some outs) (hch : Chosen outs e s) :
    ∃ keep nb, 0 ≤ nb ∧ LB Try.prog Sg (ro 44) L44 c q keep nb st e s := by
  unfold L44 at hl
  split at hl
  · have : locate c44 ([false, true, false, true] : Pl).reverse = some (.loop lp44a) := by kernel_rfl
    rw [this] at hq
    cases hq
    exact lok44a hl hch
  · cases hl
theorem lok44 : LOK Try.prog Sg (ro 44) L44 0 false c44 [] :=
  lok_lo L44_ok c44 [] false (locate_nil _) (by kernel_rfl)
noncomputable def t44 (xs ys : List (List AV)) : Tr ((Bool)) :=
  .cn (i44a_0 xs ys false 0) (.lf (v44a_0_t4' xs ys false 0)) (.cn (i44a_1 xs ys false 0) (.lf (decide ((↑xs.length : Int) < (↑ys.length : Int)))) (.nn))
noncomputable def g44 (xs ys : List (List AV)) : Bool := (t44 xs ys).g
noncomputable def w44_0 (xs ys : List (List AV)) : Bool := (t44 xs ys).val
theorem eq44 (xs ys : List (List AV)) : evF Try.prog Sg (ro 44) L44 Try.f44 [.rs 3 xs, .rs 3 ys] = (t44 xs ys).opt (fun (x : (Bool)) => (.b x : AV)) := by kernel_rfl
theorem con44 (xs ys : List (List AV)) (h : g44 xs ys = true) : Con Try.prog 44 [.rs 3 xs, .rs 3 ys] [] (.b (w44_0 xs ys)) [] :=
  con_of Sg_ok mixed Try.func44 (c := c44) rfl (names 44 _ Try.func44) lok44 ((eq44 xs ys).trans (Tr.sound _ _ h))
noncomputable def e44 (args : List AV) (rows : List Blk) : Option (Bool × AV × List Blk) := match args, rows with
  | [.rs 3 xs, .rs 3 ys], [] => some (g44 xs ys, .b (w44_0 xs ys), [])
  | _, _ => none
theorem e44_ok (args : List AV) (rows : List Blk) (pre : Bool) (v : AV) (rows' : List Blk) (h : e44 args rows = some (pre, v, rows')) (hp : pre = true) : Con Try.prog 44 args rows v rows' := by
  unfold e44 at h
  split at h
  · cases h; exact con44 _ _ hp
  · cases h
-- SPEC 44
end Go.Proofs.Ytgifjphinkbcaaa

set_option maxRecDepth 100000
set_option linter.unusedVariables false
namespace Go.Proofs.Ytgifjphinkbcaaa
open Go Go.Ev

/-! ### halves -/
noncomputable def c70 : Code := match Try.f70.body with | some c => c | _ => .skip
theorem lok70 : LOK Try.prog Sg (ro 70) (fun _ _ => none) 0 false c70 [] :=
  lok_lo (fun _ _ _ _ _ _ _ h _ => by cases h) c70 [] false (locate_nil _) (by kernel_rfl)
noncomputable def t70 (ra rb rc : Int) (ps : List (List AV)) (x y : Int) : Tr ((Int)) :=
  .cn (g87 x rb y ps) (.cn (inb x (w87_0 x rb y ps).length) (.cn (inb rb 10) (.cn (ctsAt (cts Try.prog 91) (0 + rb.toNat * 1) (cts Try.prog 3)) (.lf (toI (((w87_0 x rb y ps).getD x.toNat []).getD (0 + rb.toNat * 1) AV.u))) (.nn)) (.nn)) (.nn)) (.nn)
noncomputable def g70 (ra rb rc : Int) (ps : List (List AV)) (x y : Int) : Bool := (t70 ra rb rc ps x y).g
noncomputable def w70_0 (ra rb rc : Int) (ps : List (List AV)) (x y : Int) : Int := (t70 ra rb rc ps x y).val
theorem eq70 (ra rb rc : Int) (ps : List (List AV)) (x y : Int) : evF Try.prog Sg (ro 70) (fun _ _ => none) Try.f70 [.agg [.i .i64 ra, .i .i64 rb, .i .i64 rc, .rs 31 ps], .i .i64 x, .i .i64 y] = (t70 ra rb rc ps x y).opt (fun (x : (Int)) => (.i .i64 x : AV)) := by kernel_rfl
theorem con70 (ra rb rc : Int) (ps : List (List AV)) (x y : Int) (h : g70 ra rb rc ps x y = true) : Con Try.prog 70 [.agg [.i .i64 ra, .i .i64 rb, .i .i64 rc, .rs 31 ps], .i .i64 x, .i .i64 y] [] (.i .i64 (w70_0 ra rb rc ps x y)) [] :=
  con_of Sg_ok mixed Try.func70 (c := c70) rfl (names 70 _ Try.func70) lok70 ((eq70 ra rb rc ps x y).trans (Tr.sound _ _ h))
noncomputable def e70 (args : List AV) (rows : List Blk) : Option (Bool × AV × List Blk) := match args, rows with
  | [.agg [.i .i64 ra, .i .i64 rb, .i .i64 rc, .rs 31 ps], .i .i64 x, .i .i64 y], [] => some (g70 ra rb rc ps x y, .i .i64 (w70_0 ra rb rc ps x y), [])
  | _, _ => none
theorem e70_ok (args : List AV) (rows : List Blk) (pre : Bool) (v : AV) (rows' : List Blk) (h : e70 args rows = some (pre, v, rows')) (hp : pre = true) : Con Try.prog 70 args rows v rows' := by
  unfold e70 at h
  split at h
  · cases h; exact con70 _ _ _ _ _ _ hp
  · cases h
-- SPEC 70
end Go.Proofs.Ytgifjphinkbcaaa

set_option maxRecDepth 100000
set_option linter.unusedVariables false
namespace Go.Proofs.Ytgifjphinkbcaaa
open Go Go.Ev
noncomputable def Sh : Ev.Spec := insS 70 e70 (insS 44 e44 (insS 65 e65 (insS 64 e64 (insS 67 e67 (insS 20 e20 (Sg))))))
theorem Sh_ok : SpecOK Try.prog Sh := insS_ok e70_ok (insS_ok e44_ok (insS_ok e65_ok (insS_ok e64_ok (insS_ok e67_ok (insS_ok e20_ok (Sg_ok))))))
end Go.Proofs.Ytgifjphinkbcaaa

set_option maxRecDepth 100000
set_option linter.unusedVariables false
namespace Go.Proofs.Ytgifjphinkbcaaa
open Go Go.Ev

/-! ### Needs -/
noncomputable def c34 : Code := match Try.f34.body with | some c => c | _ => .skip
noncomputable def lp34a : Code := loopAt c34 [true, true, true, true, false, true, false]
noncomputable def s34a (t5 : Int) (t7 : Nat) (ws : List (List AV)) (t24 : Int) (t25 : Int) (m15 : List (List AV)) : St :=
  { t := [(4, .nl), (5, .i .i64 t5), (7, .sl 15 0 t7), (23, .rs 3 ws), (24, .i .i64 t24), (25, .i .i64 t25)], m := [(0, .dead), (1, .dead), (2, .dead), (3, .dead), (4, .dead), (5, .dead), (6, .dead), (7, .dead), (8, .dead), (9, .dead), (10, .dead), (11, .dead), (12, .dead), (13, .dead), (14, .dead), (15, .row 3 m15)], nx := 16, nt := 37 }
structure S34a where
  t25 : Int
  m15 : List (List AV)
inductive T34a where
  | x0 (t25 : Int) (m15 : List (List AV))
noncomputable def stp34a (t5 : Int) (t7 : Nat) (ws : List (List AV)) (t24 : Int) (t25 : Int) (m15 : List (List AV)) : Lp S34a T34a :=
  cond (decide (t25 < t24)) (cond (inb t25 ws.length) (cond (inb (fI (ws.getD t25.toNat []) 0) t7 && (0 + (fI (ws.getD t25.toNat []) 0).toNat).blt m15.length) (cond ((0 + (fI (ws.getD t25.toNat []) 0).toNat).blt m15.length) (cond (inb (fI (ws.getD t25.toNat []) 0) t7 && (0 + (fI (ws.getD t25.toNat []) 0).toNat).blt m15.length) (cond ((0 + (fI (ws.getD t25.toNat []) 0).toNat).blt m15.length) (.go ⟨IntKind.i64.wrap (t25 + 1), m15.set (0 + (fI (ws.getD t25.toNat []) 0).toNat) (setCs (m15.getD (0 + (fI (ws.getD t25.toNat []) 0).toNat) []) 0 [AV.i IntKind.i64 (IntKind.i64.wrap (fI (m15.getD (0 + (fI (ws.getD t25.toNat []) 0).toNat) []) 0 + 1))])⟩) (.bad)) (.bad)) (.bad)) (.bad)) (.bad)) (.out (.x0 t25 m15))
noncomputable def o34a_0 (t5 : Int) (t7 : Nat) (ws : List (List AV)) (t24 : Int) (t25 : Int) (m15 : List (List AV)) : St :=
  { t := [(4, .nl), (5, .i .i64 t5), (7, .sl 15 0 t7), (23, .rs 3 ws), (24, .i .i64 t24), (25, .i .i64 t25)], m := [(0, .dead), (1, .dead), (2, .dead), (3, .dead), (4, .dead), (5, .dead), (6, .dead), (7, .dead), (8, .dead), (9, .dead), (10, .dead), (11, .dead), (12, .dead), (13, .dead), (14, .dead), (15, .row 3 m15)], nx := 16, nt := 37 }
noncomputable def ou34a (t5 : Int) (t7 : Nat) (ws : List (List AV)) (t24 : Int) : T34a → Ex × St
  | .x0 t25 m15 => (.ext 0, o34a_0 t5 t7 ws t24 t25 m15)
noncomputable def r34a (t5 : Int) (t7 : Nat) (ws : List (List AV)) (t24 : Int) (t25 : Int) (m15 : List (List AV)) : Option T34a := run (fun x => stp34a t5 t7 ws t24 x.t25 x.m15) (⟨t25, m15⟩ : S34a)
noncomputable def i34a_0 (t5 : Int) (t7 : Nat) (ws : List (List AV)) (t24 : Int) (t25 : Int) (m15 : List (List AV)) : Bool := match r34a t5 t7 ws t24 t25 m15 with
  | some (.x0 _ _) => true
  | _ => false
noncomputable def v34a_0_t25 (t5 : Int) (t7 : Nat) (ws : List (List AV)) (t24 : Int) (t25 : Int) (m15 : List (List AV)) : Int := match r34a t5 t7 ws t24 t25 m15 with
  | some (.x0 t25 _) => t25
  | _ => default
noncomputable def v34a_0_m15 (t5 : Int) (t7 : Nat) (ws : List (List AV)) (t24 : Int) (t25 : Int) (m15 : List (List AV)) : List (List AV) := match r34a t5 t7 ws t24 t25 m15 with
  | some (.x0 _ m15) => m15
  | _ => default
noncomputable def l34a (st : St) : Option (List (Bool × Ex × St)) := match normW Try.prog [(4, none), (5, none), (7, none), (23, none), (24, none), (25, none)] 16 st with
  | some ([.nl, .i .i64 t5, .sl 15 0 t7, .rs 3 ws, .i .i64 t24, .i .i64 t25], [(0, .dead), (1, .dead), (2, .dead), (3, .dead), (4, .dead), (5, .dead), (6, .dead), (7, .dead), (8, .dead), (9, .dead), (10, .dead), (11, .dead), (12, .dead), (13, .dead), (14, .dead), (15, .row 3 m15)], 16, 37) => some [(i34a_0 t5 t7 ws t24 t25 m15, .ext 0, o34a_0 t5 t7 ws t24 (v34a_0_t25 t5 t7 ws t24 t25 m15) (v34a_0_m15 t5 t7 ws t24 t25 m15))]
  | _ => none
noncomputable def L34 : LSpec := fun p st => match p with
  | [false, true, false, true, true, true, true] => l34a st
  | _ => none
theorem is34a_0 (t5 : Int) (t7 : Nat) (ws : List (List AV)) (t24 : Int) (t25 : Int) (m15 : List (List AV)) (h : i34a_0 t5 t7 ws t24 t25 m15 = true) : r34a t5 t7 ws t24 t25 m15 = some (.x0 (v34a_0_t25 t5 t7 ws t24 t25 m15) (v34a_0_m15 t5 t7 ws t24 t25 m15)) := by
  unfold i34a_0 at h
  unfold v34a_0_t25 v34a_0_m15
  generalize r34a t5 t7 ws t24 t25 m15 = r at h ⊢
  rcases r with _ | y
  · cases h
  · cases y <;> first | rfl | cases h
theorem round34a (t5 : Int) (t7 : Nat) (ws : List (List AV)) (t24 : Int) (t25 : Int) (m15 : List (List AV)) : round Try.prog Sh (ro 34) L34 lp34a [false, true, false, true, true, true, true] [(4, none), (5, none), (7, none), (23, none), (24, none), (25, none)] 16 (s34a t5 t7 ws t24 t25 m15) =
    cond (decide (t25 < t24)) (cond (inb t25 ws.length) (cond (inb (fI (ws.getD t25.toNat []) 0) t7 && (0 + (fI (ws.getD t25.toNat []) 0).toNat).blt m15.length) (cond ((0 + (fI (ws.getD t25.toNat []) 0).toNat).blt m15.length) (cond (inb (fI (ws.getD t25.toNat []) 0) t7 && (0 + (fI (ws.getD t25.toNat []) 0).toNat).blt m15.length) (cond ((0 + (fI (ws.getD t25.toNat []) 0).toNat).blt m15.length) (some (.nrm, s34a t5 t7 ws t24 (IntKind.i64.wrap (t25 + 1)) (m15.set (0 + (fI (ws.getD t25.toNat []) 0).toNat) (setCs (m15.getD (0 + (fI (ws.getD t25.toNat []) 0).toNat) []) 0 [AV.i IntKind.i64 (IntKind.i64.wrap (fI (m15.getD (0 + (fI (ws.getD t25.toNat []) 0).toNat) []) 0 + 1))])))) (none)) (none)) (none)) (none)) (none)) (some (.ext 0, o34a_0 t5 t7 ws t24 t25 m15)) := by kernel_rfl
theorem rnd34a (t5 : Int) (t7 : Nat) (ws : List (List AV)) (t24 : Int) (x : S34a) : round Try.prog Sh (ro 34) L34 lp34a [false, true, false, true, true, true, true] [(4, none), (5, none), (7, none), (23, none), (24, none), (25, none)] 16 ((fun x => s34a t5 t7 ws t24 x.t25 x.m15) x) = toR (fun x => s34a t5 t7 ws t24 x.t25 x.m15) (ou34a t5 t7 ws t24) (stp34a t5 t7 ws t24 x.t25 x.m15) := by
  refine (round34a _ _ _ _ _ _ ).trans ?_
  unfold stp34a
  simp only [toR_cond]
  rfl
theorem lok34a {st : St} {outs : List (Bool × Ex × St)} {e : Ex} {s : St} (hl : l34a st = some outs) (hch : Chosen outs e s) :
    ∃ keep nb, 0 ≤ nb ∧ LB Try.prog Sh (ro 34) L34 lp34a [false, true, false, true, true, true, true] keep nb st e s := by
  unfold l34a at hl
  split at hl
  · rename_i t5 t7 ws t24 t25 m15 hno
    cases hl
    have hno := normW_norm hno
    refine ⟨_, _, ?_, .enter hno ?_⟩
    · decide
    have main := fun y h => LB_run (x := (⟨t25, m15⟩ : S34a)) (y := y) (nb := 16) (fun y => by cases y <;> simp [ou34a]) (rnd34a t5 t7 ws t24) h
    obtain ⟨x, hx, hg, rfl, rfl⟩ := chosen_any hch
    simp only [List.mem_cons, List.not_mem_nil, or_false] at hx
    subst hx
    exact main _ (is34a_0 t5 t7 ws t24 t25 m15 hg)
  · cases hl
theorem L34_ok (q : Pl) (c : Code) (hq : locate c34 q.reverse = some (.loop c)) (st : St) (outs : List (Bool × Ex × St)) (e : Ex) (s : St) (hl : L34 q st = some outs) (hch : Chosen outs e s) :
    ∃ keep nb, 0 ≤ nb ∧ LB Try.prog Sh (ro 34) L34 c q keep nb st e s := by
  unfold L34 at hl
  split at hl
  · have : locate c34 ([false, true, false, true, true, true, true] : Pl).reverse = some (.loop lp34a) := by kernel_rfl
    rw [this] at hq
    cases hq
    exact lok34a hl hch
  · cases hl
theorem lok34 : LOK Try.prog Sh (ro 34) L34 0 false c34 [] :=
  lok_lo L34_ok c34 [] false (locate_nil _) (by kernel_rfl)
noncomputable def t34 (ra rb rc : Int) (ps : List (List AV)) (ws : List (List AV)) : Tr ((List (List AV)) × (Int)) :=
  .cn (g29 ra rb rc ps) (.cn (w29_0 ra rb rc ps != 0) (.lf ([], w29_0 ra rb rc ps)) (.cn (g64 ra rb rc ps ws) (.cn (!w64_0 ra rb rc ps ws) (.lf ([], 8)) (.cn (decide ((↑ps.length : Int) = (↑ps.length : Int)) && (decide (0 ≤ (↑ps.length : Int)) && decide ((↑ps.length : Int) * (↑8 : Int) ≤ 140737488355328) && decide ((↑ps.length : Int) ≤ 9223372036854775807))) (.cn (i34a_0 0 (↑ps.length : Int).toNat ws (↑ws.length : Int) 0 (List.replicate (↑ps.length : Int).toNat [AV.i IntKind.i64 0])) (.cn ((0 + (↑ps.length : Int).toNat).ble (v34a_0_m15 0 (↑ps.length : Int).toNat ws (↑ws.length : Int) 0 (List.replicate (↑ps.length : Int).toNat [AV.i IntKind.i64 0])).length) (.lf (bif (↑ps.length : Int).toNat.beq (v34a_0_m15 0 (↑ps.length : Int).toNat ws (↑ws.length : Int) 0 (List.replicate (↑ps.length : Int).toNat [AV.i IntKind.i64 0])).length then v34a_0_m15 0 (↑ps.length : Int).toNat ws (↑ws.length : Int) 0 (List.replicate (↑ps.length : Int).toNat [AV.i IntKind.i64 0]) else List.take (↑ps.length : Int).toNat (List.drop 0 (v34a_0_m15 0 (↑ps.length : Int).toNat ws (↑ws.length : Int) 0 (List.replicate (↑ps.length : Int).toNat [AV.i IntKind.i64 0]))), 0)) (.nn)) (.nn)) (.nn))) (.nn))) (.nn)
noncomputable def g34 (ra rb rc : Int) (ps : List (List AV)) (ws : List (List AV)) : Bool := (t34 ra rb rc ps ws).g
noncomputable def w34_0 (ra rb rc : Int) (ps : List (List AV)) (ws : List (List AV)) : List (List AV) := (t34 ra rb rc ps ws).val.1
noncomputable def w34_1 (ra rb rc : Int) (ps : List (List AV)) (ws : List (List AV)) : Int := (t34 ra rb rc ps ws).val.2
noncomputable def a34 (ra rb rc : Int) (ps : List (List AV)) (ws : List (List AV)) : Tr AV :=
  .cn (g29 ra rb rc ps) (.cn (w29_0 ra rb rc ps != 0) (.lf (.tup [.nl, .i .i64 (w29_0 ra rb rc ps)])) (.cn (g64 ra rb rc ps ws) (.cn (!w64_0 ra rb rc ps ws) (.lf (.tup [.nl, .i .i64 8])) (.cn (decide ((↑ps.length : Int) = (↑ps.length : Int)) && (decide (0 ≤ (↑ps.length : Int)) && decide ((↑ps.length : Int) * (↑8 : Int) ≤ 140737488355328) && decide ((↑ps.length : Int) ≤ 9223372036854775807))) (.cn (i34a_0 0 (↑ps.length : Int).toNat ws (↑ws.length : Int) 0 (List.replicate (↑ps.length : Int).toNat [AV.i IntKind.i64 0])) (.cn ((0 + (↑ps.length : Int).toNat).ble (v34a_0_m15 0 (↑ps.length : Int).toNat ws (↑ws.length : Int) 0 (List.replicate (↑ps.length : Int).toNat [AV.i IntKind.i64 0])).length) (.lf (.tup [.rs 3 (bif (↑ps.length : Int).toNat.beq (v34a_0_m15 0 (↑ps.length : Int).toNat ws (↑ws.length : Int) 0 (List.replicate (↑ps.length : Int).toNat [AV.i IntKind.i64 0])).length then v34a_0_m15 0 (↑ps.length : Int).toNat ws (↑ws.length : Int) 0 (List.replicate (↑ps.length : Int).toNat [AV.i IntKind.i64 0]) else List.take (↑ps.length : Int).toNat (List.drop 0 (v34a_0_m15 0 (↑ps.length : Int).toNat ws (↑ws.length : Int) 0 (List.replicate (↑ps.length : Int).toNat [AV.i IntKind.i64 0])))), .i .i64 0])) (.nn)) (.nn)) (.nn))) (.nn))) (.nn)
theorem eq34 (ra rb rc : Int) (ps : List (List AV)) (ws : List (List AV)) : evF Try.prog Sh (ro 34) L34 Try.f34 [.agg [.i .i64 ra, .i .i64 rb, .i .i64 rc, .rs 31 ps], .rs 3 ws] = (a34 ra rb rc ps ws).opt id := by kernel_rfl
theorem wk34 (ra rb rc : Int) (ps : List (List AV)) (ws : List (List AV)) : (a34 ra rb rc ps ws).map (wkV [some 3, none]) = (t34 ra rb rc ps ws).map (fun (x : (List (List AV)) × (Int)) => (.tup [.rs 3 x.1, .i .i64 x.2] : AV)) := by kernel_rfl
theorem con34 (ra rb rc : Int) (ps : List (List AV)) (ws : List (List AV)) (h : g34 ra rb rc ps ws = true) : Con Try.prog 34 [.agg [.i .i64 ra, .i .i64 rb, .i .i64 rc, .rs 31 ps], .rs 3 ws] [] (.tup [.rs 3 (w34_0 ra rb rc ps ws), .i .i64 (w34_1 ra rb rc ps ws)]) [] := by
  obtain ⟨v, h1, h2⟩ := Tr.soundW (eq34 ra rb rc ps ws) (wk34 ra rb rc ps ws) h
  have := (con_of Sh_ok mixed Try.func34 (c := c34) rfl (names 34 _ Try.func34) lok34 h1).wk [some 3, none]
  rw [h2] at this
  exact this
noncomputable def e34 (args : List AV) (rows : List Blk) : Option (Bool × AV × List Blk) := match args, rows with
  | [.agg [.i .i64 ra, .i .i64 rb, .i .i64 rc, .rs 31 ps], .rs 3 ws], [] => some (g34 ra rb rc ps ws, .tup [.rs 3 (w34_0 ra rb rc ps ws), .i .i64 (w34_1 ra rb rc ps ws)], [])
  | _, _ => none
theorem e34_ok (args : List AV) (rows : List Blk) (pre : Bool) (v : AV) (rows' : List Blk) (h : e34 args rows = some (pre, v, rows')) (hp : pre = true) : Con Try.prog 34 args rows v rows' := by
  unfold e34 at h
  split at h
  · cases h; exact con34 _ _ _ _ _ hp
  · cases h
-- SPEC 34
end Go.Proofs.Ytgifjphinkbcaaa

set_option maxRecDepth 100000
set_option linter.unusedVariables false
namespace Go.Proofs.Ytgifjphinkbcaaa
open Go Go.Ev

/-! ### ref Needs -/
noncomputable def c35 : Code := match Try.f35.body with | some c => c | _ => .skip
noncomputable def lp35a : Code := loopAt c35 [true, true, true, true, true, false, true, false]
noncomputable def s35a (ws : List (List AV)) (t5 : Int) (t7 : Nat) (t8 : Int) (m19 : List (List AV)) : St :=
  { t := [(1, .rs 3 ws), (4, .nl), (5, .i .i64 t5), (7, .sl 19 0 t7), (8, .i .i64 t8)], m := [(0, .dead), (1, .dead), (2, .dead), (3, .dead), (4, .dead), (5, .dead), (6, .dead), (7, .dead), (8, .dead), (9, .dead), (10, .dead), (11, .dead), (12, .dead), (13, .dead), (14, .dead), (15, .dead), (16, .dead), (17, .dead), (18, .dead), (19, .row 3 m19)], nx := 20, nt := 42 }
structure S35a where
  t8 : Int
  m19 : List (List AV)
inductive T35a where
  | x0 (t8 : Int) (m19 : List (List AV))
noncomputable def stp35a (ws : List (List AV)) (t5 : Int) (t7 : Nat) (t8 : Int) (m19 : List (List AV)) : Lp S35a T35a :=
  cond (decide (t8 < (↑ws.length : Int))) (cond (inb t8 ws.length) (cond (inb (fI (ws.getD t8.toNat []) 0) t7 && (0 + (fI (ws.getD t8.toNat []) 0).toNat).blt m19.length) (cond ((0 + (fI (ws.getD t8.toNat []) 0).toNat).blt m19.length) (cond (inb (fI (ws.getD t8.toNat []) 0) t7 && (0 + (fI (ws.getD t8.toNat []) 0).toNat).blt m19.length) (cond ((0 + (fI (ws.getD t8.toNat []) 0).toNat).blt m19.length) (.go ⟨IntKind.i64.wrap (t8 + 1), m19.set (0 + (fI (ws.getD t8.toNat []) 0).toNat) (setCs (m19.getD (0 + (fI (ws.getD t8.toNat []) 0).toNat) []) 0 [AV.i IntKind.i64 (IntKind.i64.wrap (fI (m19.getD (0 + (fI (ws.getD t8.toNat []) 0).toNat) []) 0 + 1))])⟩) (.bad)) (.bad)) (.bad)) (.bad)) (.bad)) (.out (.x0 t8 m19))
noncomputable def o35a_0 (ws : List (List AV)) (t5 : Int) (t7 : Nat) (t8 : Int) (m19 : List (List AV)) : St :=
  { t := [(1, .rs 3 ws), (4, .nl), (5, .i .i64 t5), (7, .sl 19 0 t7), (8, .i .i64 t8)], m := [(0, .dead), (1, .dead), (2, .dead), (3, .dead), (4, .dead), (5, .dead), (6, .dead), (7, .dead), (8, .dead), (9, .dead), (10, .dead), (11, .dead), (12, .dead), (13, .dead), (14, .dead), (15, .dead), (16, .dead), (17, .dead), (18, .dead), (19, .row 3 m19)], nx := 20, nt := 42 }
noncomputable def ou35a (ws : List (List AV)) (t5 : Int) (t7 : Nat) : T35a → Ex × St
  | .x0 t8 m19 => (.ext 0, o35a_0 ws t5 t7 t8 m19)
noncomputable def r35a (ws : List (List AV)) (t5 : Int) (t7 : Nat) (t8 : Int) (m19 : List (List AV)) : Option T35a := run (fun x => stp35a ws t5 t7 x.t8 x.m19) (⟨t8, m19⟩ : S35a)
noncomputable def i35a_0 (ws : List (List AV)) (t5 : Int) (t7 : Nat) (t8 : Int) (m19 : List (List AV)) : Bool := match r35a ws t5 t7 t8 m19 with
  | some (.x0 _ _) => true
  | _ => false
noncomputable def v35a_0_t8 (ws : List (List AV)) (t5 : Int) (t7 : Nat) (t8 : Int) (m19 : List (List AV)) : Int := match r35a ws t5 t7 t8 m19 with
  | some (.x0 t8 _) => t8
  | _ => default
noncomputable def v35a_0_m19 (ws : List (List AV)) (t5 : Int) (t7 : Nat) (t8 : Int) (m19 : List (List AV)) : List (List AV) := match r35a ws t5 t7 t8 m19 with
  | some (.x0 _ m19) => m19
  | _ => default
noncomputable def l35a (st : St) : Option (List (Bool × Ex × St)) := match normW Try.prog [(1, none), (4, none), (5, none), (7, none), (8, none)] 20 st with
  | some ([.rs 3 ws, .nl, .i .i64 t5, .sl 19 0 t7, .i .i64 t8], [(0, .dead), (1, .dead), (2, .dead), (3, .dead), (4, .dead), (5, .dead), (6, .dead), (7, .dead), (8, .dead), (9, .dead), (10, .dead), (11, .dead), (12, .dead), (13, .dead), (14, .dead), (15, .dead), (16, .dead), (17, .dead), (18, .dead), (19, .row 3 m19)], 20, 42) => some [(i35a_0 ws t5 t7 t8 m19, .ext 0, o35a_0 ws t5 t7 (v35a_0_t8 ws t5 t7 t8 m19) (v35a_0_m19 ws t5 t7 t8 m19))]
  | _ => none
noncomputable def L35 : LSpec := fun p st => match p with
  | [false, true, false, true, true, true, true, true] => l35a st
  | _ => none
theorem is35a_0 (ws : List (List AV)) (t5 : Int) (t7 : Nat) (t8 : Int) (m19 : List (List AV)) (h : i35a_0 ws t5 t7 t8 m19 = true) : r35a ws t5 t7 t8 m19 = some (.x0 (v35a_0_t8 ws t5 t7 t8 m19) (v35a_0_m19 ws t5 t7 t8 m19)) := by
  unfold i35a_0 at h
  unfold v35a_0_t8 v35a_0_m19
  generalize r35a ws t5 t7 t8 m19 = r at h ⊢
  rcases r with _ | y
  · cases h
  · cases y <;> first | rfl | cases h
theorem round35a (ws : List (List AV)) (t5 : Int) (t7 : Nat) (t8 : Int) (m19 : List (List AV)) : round Try.prog Sh (ro 35) L35 lp35a [false, true, false, true, true, true, true, true] [(1, none), (4, none), (5, none), (7, none), (8, none)] 20 (s35a ws t5 t7 t8 m19) =
    cond (decide (t8 < (↑ws.length : Int))) (cond (inb t8 ws.length) (cond (inb (fI (ws.getD t8.toNat []) 0) t7 && (0 + (fI (ws.getD t8.toNat []) 0).toNat).blt m19.length) (cond ((0 + (fI (ws.getD t8.toNat []) 0).toNat).blt m19.length) (cond (inb (fI (ws.getD t8.toNat []) 0) t7 && (0 + (fI (ws.getD t8.toNat []) 0).toNat).blt m19.length) (cond ((0 + (fI (ws.getD t8.toNat []) 0).toNat).blt m19.length) (some (.nrm, s35a ws t5 t7 (IntKind.i64.wrap (t8 + 1)) (m19.set (0 + (fI (ws.getD t8.toNat []) 0).toNat) (setCs (m19.getD (0 + (fI (ws.getD t8.toNat []) 0).toNat) []) 0 [AV.i IntKind.i64 (IntKind.i64.wrap (fI (m19.getD (0 + (fI (ws.getD t8.toNat []) 0).toNat) []) 0 + 1))])))) (none)) (none)) (none)) (none)) (none)) (some (.ext 0, o35a_0 ws t5 t7 t8 m19)) := by kernel_rfl
theorem rnd35a (ws : List (List AV)) (t5 : Int) (t7 : Nat) (x : S35a) : round Try.prog Sh (ro 35) L35 lp35a [false, true, false, true, true, true, true, true] [(1, none), (4, none), (5, none), (7, none), (8, none)] 20 ((fun x => s35a ws t5 t7 x.t8 x.m19) x) = toR (fun x => s35a ws t5 t7 x.t8 x.m19) (ou35a ws t5 t7) (stp35a ws t5 t7 x.t8 x.m19) := by
  refine (round35a _ _ _ _ _ ).trans ?_
  unfold stp35a
  simp only [toR_cond]
  rfl
theorem lok35a {st : St} {outs : List (Bool × Ex × St)} {e : Ex} {s : St} (hl : l35a st = some outs) (hch : Chosen outs e s) :
    ∃ keep nb, 0 ≤ nb ∧ LB Try.prog Sh (ro 35) L35 lp35a [false, true, false, true, true, true, true, true] keep nb st e s := by
  unfold l35a at hl
  split at hl
  · rename_i ws t5 t7 t8 m19 hno
    cases hl
    have hno := normW_norm hno
    refine ⟨_, _, ?_, .enter hno ?_⟩
    · decide
    have main := fun y h => LB_run (x := (⟨t8, m19⟩ : S35a)) (y := y) (nb := 20) (fun y => by cases y <;> simp [ou35a]) (rnd35a ws t5 t7) h
    obtain ⟨x, hx, hg, rfl, rfl⟩ := chosen_any hch
    simp only [List.mem_cons, List.not_mem_nil, or_false] at hx
    subst hx
    exact main _ (is35a_0 ws t5 t7 t8 m19 hg)
  · cases hl
theorem L35_ok (q : Pl) (c : Code) (hq : locate c35 q.reverse = some (.loop c)) (st : St) (outs : List (Bool × Ex × St)) (e : Ex) (s : St) (hl : L35 q st = some outs) (hch : Chosen outs e s) :
    ∃ keep nb, 0 ≤ nb ∧ LB Try.prog Sh (ro 35) L35 c q keep nb st e s := by
  unfold L35 at hl
  split at hl
  · have : locate c35 ([false, true, false, true, true, true, true, true] : Pl).reverse = some (.loop lp35a) := by kernel_rfl
    rw [this] at hq
    cases hq
    exact lok35a hl hch
  · cases hl
theorem lok35 : LOK Try.prog Sh (ro 35) L35 0 false c35 [] :=
  lok_lo L35_ok c35 [] false (locate_nil _) (by kernel_rfl)
noncomputable def t35 (ra rb rc : Int) (ps : List (List AV)) (ws : List (List AV)) : Tr ((List (List AV)) × (Int)) :=
  .cn (g33 ra rb rc ps) (.cn (w33_0 ra rb rc ps == 0) (.cn (g65 ra rb rc ps ws) (.cn (!w65_0 ra rb rc ps ws) (.lf ([], 8)) (.cn (w33_0 ra rb rc ps != 0) (.lf ([], w33_0 ra rb rc ps)) (.cn (decide ((↑ps.length : Int) = (↑ps.length : Int)) && (decide (0 ≤ (↑ps.length : Int)) && decide ((↑ps.length : Int) * (↑8 : Int) ≤ 140737488355328) && decide ((↑ps.length : Int) ≤ 9223372036854775807))) (.cn (i35a_0 ws 0 (↑ps.length : Int).toNat 0 (List.replicate (↑ps.length : Int).toNat [AV.i IntKind.i64 0])) (.cn ((0 + (↑ps.length : Int).toNat).ble (v35a_0_m19 ws 0 (↑ps.length : Int).toNat 0 (List.replicate (↑ps.length : Int).toNat [AV.i IntKind.i64 0])).length) (.lf (bif (↑ps.length : Int).toNat.beq (v35a_0_m19 ws 0 (↑ps.length : Int).toNat 0 (List.replicate (↑ps.length : Int).toNat [AV.i IntKind.i64 0])).length then v35a_0_m19 ws 0 (↑ps.length : Int).toNat 0 (List.replicate (↑ps.length : Int).toNat [AV.i IntKind.i64 0]) else List.take (↑ps.length : Int).toNat (List.drop 0 (v35a_0_m19 ws 0 (↑ps.length : Int).toNat 0 (List.replicate (↑ps.length : Int).toNat [AV.i IntKind.i64 0]))), 0)) (.nn)) (.nn)) (.nn)))) (.nn)) (.cn (w33_0 ra rb rc ps != 0) (.lf ([], w33_0 ra rb rc ps)) (.cn (decide ((↑ps.length : Int) = (↑ps.length : Int)) && (decide (0 ≤ (↑ps.length : Int)) && decide ((↑ps.length : Int) * (↑8 : Int) ≤ 140737488355328) && decide ((↑ps.length : Int) ≤ 9223372036854775807))) (.cn (i35a_0 ws 0 (↑ps.length : Int).toNat 0 (List.replicate (↑ps.length : Int).toNat [AV.i IntKind.i64 0])) (.cn ((0 + (↑ps.length : Int).toNat).ble (v35a_0_m19 ws 0 (↑ps.length : Int).toNat 0 (List.replicate (↑ps.length : Int).toNat [AV.i IntKind.i64 0])).length) (.lf (bif (↑ps.length : Int).toNat.beq (v35a_0_m19 ws 0 (↑ps.length : Int).toNat 0 (List.replicate (↑ps.length : Int).toNat [AV.i IntKind.i64 0])).length then v35a_0_m19 ws 0 (↑ps.length : Int).toNat 0 (List.replicate (↑ps.length : Int).toNat [AV.i IntKind.i64 0]) else List.take (↑ps.length : Int).toNat (List.drop 0 (v35a_0_m19 ws 0 (↑ps.length : Int).toNat 0 (List.replicate (↑ps.length : Int).toNat [AV.i IntKind.i64 0]))), 0)) (.nn)) (.nn)) (.nn)))) (.nn)
noncomputable def g35 (ra rb rc : Int) (ps : List (List AV)) (ws : List (List AV)) : Bool := (t35 ra rb rc ps ws).g
noncomputable def w35_0 (ra rb rc : Int) (ps : List (List AV)) (ws : List (List AV)) : List (List AV) := (t35 ra rb rc ps ws).val.1
noncomputable def w35_1 (ra rb rc : Int) (ps : List (List AV)) (ws : List (List AV)) : Int := (t35 ra rb rc ps ws).val.2
noncomputable def a35 (ra rb rc : Int) (ps : List (List AV)) (ws : List (List AV)) : Tr AV :=
  .cn (g33 ra rb rc ps) (.cn (w33_0 ra rb rc ps == 0) (.cn (g65 ra rb rc ps ws) (.cn (!w65_0 ra rb rc ps ws) (.lf (.tup [.nl, .i .i64 8])) (.cn (w33_0 ra rb rc ps != 0) (.lf (.tup [.nl, .i .i64 (w33_0 ra rb rc ps)])) (.cn (decide ((↑ps.length : Int) = (↑ps.length : Int)) && (decide (0 ≤ (↑ps.length : Int)) && decide ((↑ps.length : Int) * (↑8 : Int) ≤ 140737488355328) && decide ((↑ps.length : Int) ≤ 9223372036854775807))) (.cn (i35a_0 ws 0 (↑ps.length : Int).toNat 0 (List.replicate (↑ps.length : Int).toNat [AV.i IntKind.i64 0])) (.cn ((0 + (↑ps.length : Int).toNat).ble (v35a_0_m19 ws 0 (↑ps.length : Int).toNat 0 (List.replicate (↑ps.length : Int).toNat [AV.i IntKind.i64 0])).length) (.lf (.tup [.rs 3 (bif (↑ps.length : Int).toNat.beq (v35a_0_m19 ws 0 (↑ps.length : Int).toNat 0 (List.replicate (↑ps.length : Int).toNat [AV.i IntKind.i64 0])).length then v35a_0_m19 ws 0 (↑ps.length : Int).toNat 0 (List.replicate (↑ps.length : Int).toNat [AV.i IntKind.i64 0]) else List.take (↑ps.length : Int).toNat (List.drop 0 (v35a_0_m19 ws 0 (↑ps.length : Int).toNat 0 (List.replicate (↑ps.length : Int).toNat [AV.i IntKind.i64 0])))), .i .i64 0])) (.nn)) (.nn)) (.nn)))) (.nn)) (.cn (w33_0 ra rb rc ps != 0) (.lf (.tup [.nl, .i .i64 (w33_0 ra rb rc ps)])) (.cn (decide ((↑ps.length : Int) = (↑ps.length : Int)) && (decide (0 ≤ (↑ps.length : Int)) && decide ((↑ps.length : Int) * (↑8 : Int) ≤ 140737488355328) && decide ((↑ps.length : Int) ≤ 9223372036854775807))) (.cn (i35a_0 ws 0 (↑ps.length : Int).toNat 0 (List.replicate (↑ps.length : Int).toNat [AV.i IntKind.i64 0])) (.cn ((0 + (↑ps.length : Int).toNat).ble (v35a_0_m19 ws 0 (↑ps.length : Int).toNat 0 (List.replicate (↑ps.length : Int).toNat [AV.i IntKind.i64 0])).length) (.lf (.tup [.rs 3 (bif (↑ps.length : Int).toNat.beq (v35a_0_m19 ws 0 (↑ps.length : Int).toNat 0 (List.replicate (↑ps.length : Int).toNat [AV.i IntKind.i64 0])).length then v35a_0_m19 ws 0 (↑ps.length : Int).toNat 0 (List.replicate (↑ps.length : Int).toNat [AV.i IntKind.i64 0]) else List.take (↑ps.length : Int).toNat (List.drop 0 (v35a_0_m19 ws 0 (↑ps.length : Int).toNat 0 (List.replicate (↑ps.length : Int).toNat [AV.i IntKind.i64 0])))), .i .i64 0])) (.nn)) (.nn)) (.nn)))) (.nn)
theorem eq35 (ra rb rc : Int) (ps : List (List AV)) (ws : List (List AV)) : evF Try.prog Sh (ro 35) L35 Try.f35 [.agg [.i .i64 ra, .i .i64 rb, .i .i64 rc, .rs 31 ps], .rs 3 ws] = (a35 ra rb rc ps ws).opt id := by kernel_rfl
theorem wk35 (ra rb rc : Int) (ps : List (List AV)) (ws : List (List AV)) : (a35 ra rb rc ps ws).map (wkV [some 3, none]) = (t35 ra rb rc ps ws).map (fun (x : (List (List AV)) × (Int)) => (.tup [.rs 3 x.1, .i .i64 x.2] : AV)) := by kernel_rfl
theorem con35 (ra rb rc : Int) (ps : List (List AV)) (ws : List (List AV)) (h : g35 ra rb rc ps ws = true) : Con Try.prog 35 [.agg [.i .i64 ra, .i .i64 rb, .i .i64 rc, .rs 31 ps], .rs 3 ws] [] (.tup [.rs 3 (w35_0 ra rb rc ps ws), .i .i64 (w35_1 ra rb rc ps ws)]) [] := by
  obtain ⟨v, h1, h2⟩ := Tr.soundW (eq35 ra rb rc ps ws) (wk35 ra rb rc ps ws) h
  have := (con_of Sh_ok mixed Try.func35 (c := c35) rfl (names 35 _ Try.func35) lok35 h1).wk [some 3, none]
  rw [h2] at this
  exact this
noncomputable def e35 (args : List AV) (rows : List Blk) : Option (Bool × AV × List Blk) := match args, rows with
  | [.agg [.i .i64 ra, .i .i64 rb, .i .i64 rc, .rs 31 ps], .rs 3 ws], [] => some (g35 ra rb rc ps ws, .tup [.rs 3 (w35_0 ra rb rc ps ws), .i .i64 (w35_1 ra rb rc ps ws)], [])
  | _, _ => none
theorem e35_ok (args : List AV) (rows : List Blk) (pre : Bool) (v : AV) (rows' : List Blk) (h : e35 args rows = some (pre, v, rows')) (hp : pre = true) : Con Try.prog 35 args rows v rows' := by
  unfold e35 at h
  split at h
  · cases h; exact con35 _ _ _ _ _ hp
  · cases h
-- SPEC 35
end Go.Proofs.Ytgifjphinkbcaaa

set_option maxRecDepth 100000
set_option linter.unusedVariables false
namespace Go.Proofs.Ytgifjphinkbcaaa
open Go Go.Ev

/-! ### Fits -/
noncomputable def c30 : Code := match Try.f30.body with | some c => c | _ => .skip
theorem lok30 : LOK Try.prog Sh (ro 30) (fun _ _ => none) 0 false c30 [] :=
  lok_lo (fun _ _ _ _ _ _ _ h _ => by cases h) c30 [] false (locate_nil _) (by kernel_rfl)
noncomputable def t30 (ra rb rc : Int) (ps : List (List AV)) (ws : List (List AV)) : Tr ((Bool) × (Int)) :=
  .cn (g29 ra rb rc ps) (.cn (w29_0 ra rb rc ps != 0) (.lf (false, w29_0 ra rb rc ps)) (.cn (g64 ra rb rc ps ws) (.lf (w64_0 ra rb rc ps ws, 0)) (.nn))) (.nn)
noncomputable def g30 (ra rb rc : Int) (ps : List (List AV)) (ws : List (List AV)) : Bool := (t30 ra rb rc ps ws).g
noncomputable def w30_0 (ra rb rc : Int) (ps : List (List AV)) (ws : List (List AV)) : Bool := (t30 ra rb rc ps ws).val.1
noncomputable def w30_1 (ra rb rc : Int) (ps : List (List AV)) (ws : List (List AV)) : Int := (t30 ra rb rc ps ws).val.2
theorem eq30 (ra rb rc : Int) (ps : List (List AV)) (ws : List (List AV)) : evF Try.prog Sh (ro 30) (fun _ _ => none) Try.f30 [.agg [.i .i64 ra, .i .i64 rb, .i .i64 rc, .rs 31 ps], .rs 3 ws] = (t30 ra rb rc ps ws).opt (fun (x : (Bool) × (Int)) => (.tup [.b x.1, .i .i64 x.2] : AV)) := by kernel_rfl
theorem con30 (ra rb rc : Int) (ps : List (List AV)) (ws : List (List AV)) (h : g30 ra rb rc ps ws = true) : Con Try.prog 30 [.agg [.i .i64 ra, .i .i64 rb, .i .i64 rc, .rs 31 ps], .rs 3 ws] [] (.tup [.b (w30_0 ra rb rc ps ws), .i .i64 (w30_1 ra rb rc ps ws)]) [] :=
  con_of Sh_ok mixed Try.func30 (c := c30) rfl (names 30 _ Try.func30) lok30 ((eq30 ra rb rc ps ws).trans (Tr.sound _ _ h))
noncomputable def e30 (args : List AV) (rows : List Blk) : Option (Bool × AV × List Blk) := match args, rows with
  | [.agg [.i .i64 ra, .i .i64 rb, .i .i64 rc, .rs 31 ps], .rs 3 ws], [] => some (g30 ra rb rc ps ws, .tup [.b (w30_0 ra rb rc ps ws), .i .i64 (w30_1 ra rb rc ps ws)], [])
  | _, _ => none
theorem e30_ok (args : List AV) (rows : List Blk) (pre : Bool) (v : AV) (rows' : List Blk) (h : e30 args rows = some (pre, v, rows')) (hp : pre = true) : Con Try.prog 30 args rows v rows' := by
  unfold e30 at h
  split at h
  · cases h; exact con30 _ _ _ _ _ hp
  · cases h
-- SPEC 30
end Go.Proofs.Ytgifjphinkbcaaa

set_option maxRecDepth 100000
set_option linter.unusedVariables false
namespace Go.Proofs.Ytgifjphinkbcaaa
open Go Go.Ev

/-! ### ref Fits -/
noncomputable def c32 : Code := match Try.f32.body with | some c => c | _ => .skip
theorem lok32 : LOK Try.prog Sh (ro 32) (fun _ _ => none) 0 false c32 [] :=
  lok_lo (fun _ _ _ _ _ _ _ h _ => by cases h) c32 [] false (locate_nil _) (by kernel_rfl)
noncomputable def t32 (ra rb rc : Int) (ps : List (List AV)) (ws : List (List AV)) : Tr ((Bool) × (Int)) :=
  .cn (g33 ra rb rc ps) (.cn (w33_0 ra rb rc ps != 0) (.lf (false, w33_0 ra rb rc ps)) (.cn (g65 ra rb rc ps ws) (.lf (w65_0 ra rb rc ps ws, 0)) (.nn))) (.nn)
noncomputable def g32 (ra rb rc : Int) (ps : List (List AV)) (ws : List (List AV)) : Bool := (t32 ra rb rc ps ws).g
noncomputable def w32_0 (ra rb rc : Int) (ps : List (List AV)) (ws : List (List AV)) : Bool := (t32 ra rb rc ps ws).val.1
noncomputable def w32_1 (ra rb rc : Int) (ps : List (List AV)) (ws : List (List AV)) : Int := (t32 ra rb rc ps ws).val.2
theorem eq32 (ra rb rc : Int) (ps : List (List AV)) (ws : List (List AV)) : evF Try.prog Sh (ro 32) (fun _ _ => none) Try.f32 [.agg [.i .i64 ra, .i .i64 rb, .i .i64 rc, .rs 31 ps], .rs 3 ws] = (t32 ra rb rc ps ws).opt (fun (x : (Bool) × (Int)) => (.tup [.b x.1, .i .i64 x.2] : AV)) := by kernel_rfl
theorem con32 (ra rb rc : Int) (ps : List (List AV)) (ws : List (List AV)) (h : g32 ra rb rc ps ws = true) : Con Try.prog 32 [.agg [.i .i64 ra, .i .i64 rb, .i .i64 rc, .rs 31 ps], .rs 3 ws] [] (.tup [.b (w32_0 ra rb rc ps ws), .i .i64 (w32_1 ra rb rc ps ws)]) [] :=
  con_of Sh_ok mixed Try.func32 (c := c32) rfl (names 32 _ Try.func32) lok32 ((eq32 ra rb rc ps ws).trans (Tr.sound _ _ h))
noncomputable def e32 (args : List AV) (rows : List Blk) : Option (Bool × AV × List Blk) := match args, rows with
  | [.agg [.i .i64 ra, .i .i64 rb, .i .i64 rc, .rs 31 ps], .rs 3 ws], [] => some (g32 ra rb rc ps ws, .tup [.b (w32_0 ra rb rc ps ws), .i .i64 (w32_1 ra rb rc ps ws)], [])
  | _, _ => none
theorem e32_ok (args : List AV) (rows : List Blk) (pre : Bool) (v : AV) (rows' : List Blk) (h : e32 args rows = some (pre, v, rows')) (hp : pre = true) : Con Try.prog 32 args rows v rows' := by
  unfold e32 at h
  split at h
  · cases h; exact con32 _ _ _ _ _ hp
  · cases h
-- SPEC 32
end Go.Proofs.Ytgifjphinkbcaaa

set_option maxRecDepth 100000
set_option linter.unusedVariables false
namespace Go.Proofs.Ytgifjphinkbcaaa
open Go Go.Ev
/-! ### What a row needs; RidgeChecks -/
/-- How often a number stands in a list. -/
def cntIn (j : Nat) : List Int → Int
  | [] => 0
  | k :: ks => (if k = (j : Int) then 1 else 0) + cntIn j ks
theorem cntIn_cons (j : Nat) (k : Int) (ks : List Int) : cntIn j (k :: ks) = (if k = (j : Int) then 1 else 0) + cntIn j ks := rfl
theorem cntIn_le (j : Nat) : ∀ l : List Int, 0 ≤ cntIn j l ∧ cntIn j l ≤ l.length
  | [] => by simp [cntIn]
  | k :: ks => by
    have := cntIn_le j ks
    unfold cntIn
    simp only [List.length_cons]
    split <;> omega
def allK (ps : List (List AV)) (ks : List Int) : Prop := ∀ k, k ∈ ks → isK ps k = true
theorem fitsL_all {ps : List (List AV)} {c : Int} : ∀ {ks : List Int} {n b : Int}, fitsL ps c n b ks = true → allK ps ks
  | [], _, _, _ => fun k hk => by simp at hk
  | k :: ks, n, b, h => by
    have h : (isK ps k && (fI (pk ps k) 2 == b && decide (fI (pk ps k) 1 ≤ n) && fitsL ps c (n - fI (pk ps k) 1) (fI (pk ps k) 3) ks)) = true := h
    rw [Bool.and_eq_true, Bool.and_eq_true] at h
    intro q hq
    rcases List.mem_cons.1 hq with rfl | hq
    · exact h.1
    · exact fitsL_all h.2.2 q hq
theorem isK_nat {ps : List (List AV)} {k : Int} (h : isK ps k = true) : ∃ q : Nat, k = (q : Int) ∧ q < ps.length := by
  simp only [isK, Bool.and_eq_true, decide_eq_true_eq] at h
  exact ⟨k.toNat, by omega, by omega⟩
theorem needs34 {ps ws : List (List AV)} (t5 : Int) (hw : ws.length < 9223372036854775807) (hall : allK ps (nums ws)) :
    r34a t5 ps.length ws (ws.length : Int) 0 (ones (fun _ => 0) ps.length) = some (.x0 (ws.length : Int) (ones (fun j => cntIn j (nums ws)) ps.length)) := by
  have run : ∃ y, r34a t5 ps.length ws (ws.length : Int) 0 (ones (fun _ => 0) ps.length) = some y ∧ y = .x0 (ws.length : Int) (ones (fun j => 0 + cntIn j ((nums ws).drop 0)) ps.length) := by
    unfold r34a
    refine run_for (S := Nat → Int) ws.length (fun k f => (⟨(k : Int), ones f ps.length⟩ : S34a)) (fun k f => ∀ j, 0 ≤ f j ∧ f j ≤ k) (fun k f (y : T34a) => y = .x0 (ws.length : Int) (ones (fun j => f j + cntIn j ((nums ws).drop k)) ps.length)) (fun k f hk hf => ?_) (fun f hf => ?_) 0 (fun _ => 0) (Nat.zero_le _) (fun j => ⟨Int.le_refl _, Int.le_refl _⟩)
    · left
      have hm : isK ps (fI (ws.getD k []) 0) = true := hall _ (by
        unfold nums
        exact List.mem_map.2 ⟨_, drop_mem [] hk, rfl⟩)
      have hd := nums_drop hk
      obtain ⟨q, hq, hql⟩ := isK_nat hm
      have fq := hf q
      refine ⟨upd f q (f q + 1), ?_, fun j => ?_, fun y hy => ?_⟩
      · show stp34a t5 ps.length ws (ws.length : Int) (k : Int) (ones f ps.length) = _
        unfold stp34a
        have hb : q.blt (ones f ps.length).length = true := by
          rw [ones_len]
          simpa [Nat.blt_eq] using hql
        simp only [lt_true hk, inb_true hk, cond_true, Int.toNat_natCast, wrap_succ (show k < 9223372036854775807 by omega), hq, inb_true hql, hb, Bool.and_true, Nat.zero_add, ones_get hql]
        have e1 : fI [AV.i IntKind.i64 (f q)] 0 = f q := rfl
        rw [e1, wrap64 (by omega) (by omega)]
        have e2 : setCs [AV.i IntKind.i64 (f q)] 0 [AV.i IntKind.i64 (f q + 1)] = [AV.i IntKind.i64 (f q + 1)] := rfl
        rw [e2, ones_set hql]
      · have := hf j
        unfold upd
        split <;> omega
      · rw [hy, hd]
        congr 2
        funext j
        rw [hq]
        rw [cntIn_cons]
        unfold upd
        by_cases e : j = q
        · subst e; simp; omega
        · have : ¬ (q : Int) = (j : Int) := by omega
          simp [e, this]
    · refine ⟨.x0 (ws.length : Int) (ones f ps.length), ?_, ?_⟩
      · show stp34a t5 ps.length ws (ws.length : Int) (ws.length : Int) (ones f ps.length) = _
        unfold stp34a
        rw [lt_false]; rfl
      · rw [List.drop_of_length_le (by rw [nums_len]; exact Nat.le_refl _)]
        simp [cntIn]
  obtain ⟨y, h1, h2⟩ := run
  rw [h1, h2]
  simp
theorem needs35 {ps ws : List (List AV)} (t5 : Int) (hw : ws.length < 9223372036854775807) (hall : allK ps (nums ws)) :
    r35a ws t5 ps.length 0 (ones (fun _ => 0) ps.length) = some (.x0 (ws.length : Int) (ones (fun j => cntIn j (nums ws)) ps.length)) := by
  have run : ∃ y, r35a ws t5 ps.length 0 (ones (fun _ => 0) ps.length) = some y ∧ y = .x0 (ws.length : Int) (ones (fun j => 0 + cntIn j ((nums ws).drop 0)) ps.length) := by
    unfold r35a
    refine run_for (S := Nat → Int) ws.length (fun k f => (⟨(k : Int), ones f ps.length⟩ : S35a)) (fun k f => ∀ j, 0 ≤ f j ∧ f j ≤ k) (fun k f (y : T35a) => y = .x0 (ws.length : Int) (ones (fun j => f j + cntIn j ((nums ws).drop k)) ps.length)) (fun k f hk hf => ?_) (fun f hf => ?_) 0 (fun _ => 0) (Nat.zero_le _) (fun j => ⟨Int.le_refl _, Int.le_refl _⟩)
    · left
      have hm : isK ps (fI (ws.getD k []) 0) = true := hall _ (by
        unfold nums
        exact List.mem_map.2 ⟨_, drop_mem [] hk, rfl⟩)
      have hd := nums_drop hk
      obtain ⟨q, hq, hql⟩ := isK_nat hm
      have fq := hf q
      refine ⟨upd f q (f q + 1), ?_, fun j => ?_, fun y hy => ?_⟩
      · show stp35a ws t5 ps.length (k : Int) (ones f ps.length) = _
        unfold stp35a
        have hb : q.blt (ones f ps.length).length = true := by
          rw [ones_len]
          simpa [Nat.blt_eq] using hql
        simp only [lt_true hk, inb_true hk, cond_true, Int.toNat_natCast, wrap_succ (show k < 9223372036854775807 by omega), hq, inb_true hql, hb, Bool.and_true, Nat.zero_add, ones_get hql]
        have e1 : fI [AV.i IntKind.i64 (f q)] 0 = f q := rfl
        rw [e1, wrap64 (by omega) (by omega)]
        have e2 : setCs [AV.i IntKind.i64 (f q)] 0 [AV.i IntKind.i64 (f q + 1)] = [AV.i IntKind.i64 (f q + 1)] := rfl
        rw [e2, ones_set hql]
      · have := hf j
        unfold upd
        split <;> omega
      · rw [hy, hd]
        congr 2
        funext j
        rw [hq]
        rw [cntIn_cons]
        unfold upd
        by_cases e : j = q
        · subst e; simp; omega
        · have : ¬ (q : Int) = (j : Int) := by omega
          simp [e, this]
    · refine ⟨.x0 (ws.length : Int) (ones f ps.length), ?_, ?_⟩
      · show stp35a ws t5 ps.length (ws.length : Int) (ones f ps.length) = _
        unfold stp35a
        rw [lt_false]; rfl
      · rw [List.drop_of_length_le (by rw [nums_len]; exact Nat.le_refl _)]
        simp [cntIn]
  obtain ⟨y, h1, h2⟩ := run
  rw [h1, h2]
  simp
theorem make_ok {n : Nat} (h : n ≤ 10) : (decide ((n : Int) = (n : Int)) && (decide (0 ≤ (n : Int)) && decide ((n : Int) * (8 : Int) ≤ 140737488355328) && decide ((n : Int) ≤ 9223372036854775807))) = true := by
  simp only [Bool.and_eq_true, decide_eq_true_eq]
  exact ⟨trivial, ⟨by omega, by omega⟩, by omega⟩
/-- What is needed of each piece. -/
def needL (ps : List (List AV)) (ks : List Int) : List (List AV) := ones (fun j => cntIn j ks) ps.length
theorem needs_val {ra rb rc : Int} {ps ws : List (List AV)} (hF : Fine ra rb rc ps) (h0 : w29_0 ra rb rc ps = 0) (hw : ws.length < 9223372036854775807) :
    g34 ra rb rc ps ws = true ∧ w34_1 ra rb rc ps ws = (if fitsL ps rc ra rb (nums ws) then 0 else 8) ∧ w34_0 ra rb rc ps ws = (if fitsL ps rc ra rb (nums ws) then needL ps (nums ws) else []) := by
  obtain ⟨f1, f2⟩ := fits_val hF hw
  have hz : (w29_0 ra rb rc ps != 0) = false := by simp [h0]
  unfold g34 w34_1 w34_0 t34
  rw [g29_true, hz, f1, f2]
  cases hf : fitsL ps rc ra rb (nums ws) with
  | false => exact ⟨rfl, rfl, rfl⟩
  | true =>
    have hr := needs34 0 hw (fitsL_all hf)
    have hl := hF.ps.1
    rw [make_ok hl]
    simp only [Int.toNat_natCast, ones_zero]
    unfold i34a_0 v34a_0_m15
    rw [hr]
    simp only [ones_len, Nat.zero_add, Nat.beq_refl, Bool.not_true, cond_true, cond_false, Tr.g, Tr.val, if_true, show ps.length.ble ps.length = true by simp [Nat.ble_eq]]
    exact ⟨trivial, trivial, rfl⟩
theorem rneeds_val {ra rb rc : Int} {ps ws : List (List AV)} (hF : Fine ra rb rc ps) (h0 : w29_0 ra rb rc ps = 0) (hw : ws.length < 9223372036854775807) :
    g35 ra rb rc ps ws = true ∧ w35_1 ra rb rc ps ws = (if fitsL ps rc ra rb (nums ws) then 0 else 8) ∧ w35_0 ra rb rc ps ws = (if fitsL ps rc ra rb (nums ws) then needL ps (nums ws) else []) := by
  obtain ⟨f1, f2⟩ := rfits_val hF hw
  obtain ⟨c1, c2, _⟩ := check_eq ra rb rc ps
  have hz : ((0 : Int) != 0) = false := by decide
  have hz2 : ((0 : Int) == 0) = true := by decide
  unfold g35 w35_1 w35_0 t35
  rw [c1, c2, h0, f1, f2, hz, hz2]
  cases hf : fitsL ps rc ra rb (nums ws) with
  | false => exact ⟨rfl, rfl, rfl⟩
  | true =>
    have hr := needs35 0 hw (fitsL_all hf)
    have hl := hF.ps.1
    rw [make_ok hl]
    simp only [Int.toNat_natCast, ones_zero]
    unfold i35a_0 v35a_0_m19
    rw [hr]
    simp only [ones_len, Nat.zero_add, Nat.beq_refl, Bool.not_true, cond_true, cond_false, Tr.g, Tr.val, if_true, show ps.length.ble ps.length = true by simp [Nat.ble_eq]]
    exact ⟨trivial, trivial, rfl⟩
theorem needs_err {ra rb rc : Int} {ps ws : List (List AV)} (h0 : w29_0 ra rb rc ps ≠ 0) :
    (g34 ra rb rc ps ws = true ∧ w34_1 ra rb rc ps ws = w29_0 ra rb rc ps ∧ w34_0 ra rb rc ps ws = []) ∧ g35 ra rb rc ps ws = true ∧ w35_1 ra rb rc ps ws = w29_0 ra rb rc ps ∧ w35_0 ra rb rc ps ws = [] := by
  obtain ⟨c1, c2, _⟩ := check_eq ra rb rc ps
  have hz : (w29_0 ra rb rc ps != 0) = true := by simpa using h0
  have hz2 : (w29_0 ra rb rc ps == 0) = false := by simpa using h0
  unfold g34 w34_1 w34_0 t34 g35 w35_1 w35_0 t35
  rw [c1, c2, g29_true, hz, hz2]
  exact ⟨⟨rfl, rfl, rfl⟩, rfl, rfl, rfl⟩
theorem fitsE_err {ra rb rc : Int} {ps ws : List (List AV)} (h0 : w29_0 ra rb rc ps ≠ 0) :
    (g30 ra rb rc ps ws = true ∧ w30_1 ra rb rc ps ws = w29_0 ra rb rc ps ∧ w30_0 ra rb rc ps ws = false) ∧ g32 ra rb rc ps ws = true ∧ w32_1 ra rb rc ps ws = w29_0 ra rb rc ps ∧ w32_0 ra rb rc ps ws = false := by
  obtain ⟨c1, c2, _⟩ := check_eq ra rb rc ps
  have hz : (w29_0 ra rb rc ps != 0) = true := by simpa using h0
  unfold g30 w30_1 w30_0 t30 g32 w32_1 w32_0 t32
  rw [c1, c2, g29_true, hz]
  exact ⟨⟨rfl, rfl, rfl⟩, rfl, rfl, rfl⟩
theorem fitsE_val {ra rb rc : Int} {ps ws : List (List AV)} (hF : Fine ra rb rc ps) (h0 : w29_0 ra rb rc ps = 0) (hw : ws.length < 9223372036854775807) :
    (g30 ra rb rc ps ws = true ∧ w30_1 ra rb rc ps ws = 0 ∧ w30_0 ra rb rc ps ws = fitsL ps rc ra rb (nums ws)) ∧ g32 ra rb rc ps ws = true ∧ w32_1 ra rb rc ps ws = 0 ∧ w32_0 ra rb rc ps ws = fitsL ps rc ra rb (nums ws) := by
  obtain ⟨f1, f2⟩ := fits_val hF hw
  obtain ⟨r1, r2⟩ := rfits_val hF hw
  obtain ⟨c1, c2, _⟩ := check_eq ra rb rc ps
  have hz : ((0 : Int) != 0) = false := by decide
  unfold g30 w30_1 w30_0 t30 g32 w32_1 w32_0 t32
  rw [c1, c2, g29_true, h0, hz, f1, f2, r1, r2]
  exact ⟨⟨rfl, rfl, rfl⟩, rfl, rfl, rfl⟩
theorem fine_of {ra rb rc : Int} {ps : List (List AV)} (h : w29_0 ra rb rc ps = 0) : Fine ra rb rc ps := by
  rcases check_err ra rb rc ps with h' | ⟨h', _⟩
  · exact absurd h h'
  · exact h'
end Go.Proofs.Ytgifjphinkbcaaa

set_option maxRecDepth 100000
set_option linter.unusedVariables false
namespace Go.Proofs.Ytgifjphinkbcaaa
open Go Go.Ev
/-! ### The reference's table -/
theorem bmin_comm (a b : Int) : bmin a b = bmin b a := by
  rw [bmin_le, bmin_le]
  split <;> split <;> omega
theorem rstp_go {ra rb rc : Int} {ps : List (List AV)} {N i k L A B : Nat} {T : Nat → Nat → Int} {p : List AV} (hp : ps.getD k [] = p) (hk : k < ps.length) (hlen : ps.length ≤ 10) (h1 : fI p 1 = (L : Int)) (h2 : fI p 2 = (A : Int)) (h3 : fI p 3 = (B : Int))
    (hA : A < 10) (hB : B < 10) (hL : 1 ≤ L) (hL2 : L ≤ 2000) (hi : i < N) (hN : N ≤ 2001) (hT : okT T) :
    stp87aa ra rb rc ps N (i : Int) (k : Int) (tab N T) = .go ⟨((k + 1 : Nat) : Int), tab N (lvl1 i L A B T)⟩ := by
  unfold stp87aa
  have e1 : decide ((k : Int) < (ps.length : Int)) = true := decide_eq_true (by omega)
  have e2 : inb (k : Int) ps.length = true := by simp [inb_nat, hk]
  obtain ⟨w0, w1, w2⟩ := w71_same (i : Int) (fS p 0) (L : Int) (A : Int) (B : Int) (fI p 4)
  have ew : IntKind.i64.wrap ((k : Int) + 1) = ((k + 1 : Nat) : Int) := (wrap64 (by omega) (by omega)).trans (by omega)
  have ei : inb (i : Int) N = true := by simp [inb_nat, hi]
  have eA : inb (A : Int) 10 = true := by simp [inb_nat, hA]
  have eB : inb (B : Int) 10 = true := by simp [inb_nat, hB]
  have cA := cts91 hA
  have cB := cts91 hB
  simp only [e1, e2, cond_true, Int.toNat_natCast, hp, h1, h2, h3, ew, ei, eA, eB, tab_len, Nat.zero_add, Nat.mul_one] at cA cB ⊢
  rw [cA, cB]
  have bi : Nat.blt i N = true := by simpa [Nat.blt_eq] using hi
  simp only [bi, Bool.and_true, cond_true]
  by_cases hLi : L ≤ i
  · have d1 : decide ((L : Int) ≤ (i : Int)) = true := decide_eq_true (by omega)
    have ww : IntKind.i64.wrap ((i : Int) - (L : Int)) = ((i - L : Nat) : Int) := (wrap64 (by omega) (by omega)).trans (by omega)
    have hj : i - L < N := by omega
    have ej : inb ((i - L : Nat) : Int) N = true := by simp [inb_nat, hj]
    have bj : Nat.blt (i - L) N = true := by simpa [Nat.blt_eq] using hj
    have q1 := hT i A
    have q2 := hT (i - L) B
    simp only [d1, cond_true, ww, ej, Int.toNat_natCast, bj, Bool.and_true, tab_get hi, tab_get hj, tabR_get hA, tabR_get hB]
    rw [wrap64 (by unfold cap at *; omega) (by unfold cap at *; omega)]
    rw [bmin_comm]
    have := tab_set (N := N) (T := T) (v := bmin (T i A + T (i - L) B) 1000000000000001) hi hA
    rw [tab_get hi] at this
    rw [this]
    unfold lvl1
    rw [if_pos hLi]
    rfl
  · have d1 : decide ((L : Int) ≤ (i : Int)) = false := decide_eq_false (by omega)
    simp only [d1, cond_false]
    unfold lvl1
    rw [if_neg hLi]
theorem rinner {ra rb rc : Int} {ps : List (List AV)} {N i : Nat} {T : Nat → Nat → Int} (hps : okPs ps) (hi : i < N) (hN : N ≤ 2001) (hT : okT T) :
    r87aa ra rb rc ps N (i : Int) 0 (tab N T) = some (.x0 (ps.length : Int) (tab N (lvl ps i T))) := by
  unfold r87aa
  have := run_from0 (step := fun x : S87aa => stp87aa ra rb rc ps N (i : Int) x.t5 x.m5) (y := .x0 (ps.length : Int) (tab N (lvl ps i T))) (m := ps.length)
    (fun k => ⟨(k : Int), tab N (lvl (ps.take k) i T)⟩) (fun k hk => ?_) ?_
  · simpa [lvl] using this
  · have hm : ps.getD k [] ∈ ps := by
      simp only [List.getD_eq_getElem?_getD, List.getElem?_eq_getElem hk, Option.getD_some]
      exact List.getElem_mem hk
    obtain ⟨b1, b2, b3, b4, b5, b6⟩ := hps.2 _ hm
    have := rstp_go (ra := ra) (rb := rb) (rc := rc) (ps := ps) (N := N) (i := i) (k := k) (L := pL (ps.getD k [])) (A := pA (ps.getD k [])) (B := pB (ps.getD k [])) (T := lvl (ps.take k) i T) rfl hk hps.1
      (by unfold pL; omega) (by unfold pA; omega) (by unfold pB; omega) (by unfold pA; omega) (by unfold pB; omega) (by unfold pL; omega) (by unfold pL; omega) hi hN (lvl_ok _ hT)
    rw [take_foldl hk]
    exact this
  · show stp87aa ra rb rc ps N (i : Int) (ps.length : Int) _ = _
    rw [List.take_length]
    unfold stp87aa
    have : decide ((ps.length : Int) < (ps.length : Int)) = false := decide_eq_false (by omega)
    rw [this]
    rfl
theorem router {rb rc : Int} {ps : List (List AV)} {n c : Nat} (hps : okPs ps) (hn : n ≤ 2000) :
    r87a (n : Int) rb rc ps (n + 1) 1 (tab (n + 1) (tabs ps c 0)) = some (.x0 ((n + 1 : Nat) : Int) (tab (n + 1) (tabs ps c n))) := by
  unfold r87a
  have := run_from0 (step := fun x : S87a => stp87a (n : Int) rb rc ps (n + 1) x.t4 x.m5) (y := .x0 ((n + 1 : Nat) : Int) (tab (n + 1) (tabs ps c n))) (m := n)
    (fun k => ⟨((k + 1 : Nat) : Int), tab (n + 1) (tabs ps c k)⟩) (fun k hk => ?_) ?_
  · exact this
  · show stp87a (n : Int) rb rc ps (n + 1) ((k + 1 : Nat) : Int) (tab (n + 1) (tabs ps c k)) = _
    unfold stp87a
    have e1 : decide (((k + 1 : Nat) : Int) ≤ (n : Int)) = true := decide_eq_true (by omega)
    have hin := rinner (ra := (n : Int)) (rb := rb) (rc := rc) (ps := ps) (N := n + 1) (i := k + 1) (T := tabs ps c k) hps (by omega) (by omega) (tabs_ok ps c k)
    have ew : IntKind.i64.wrap (((k + 1 : Nat) : Int) + 1) = ((k + 1 + 1 : Nat) : Int) := (wrap64 (by omega) (by omega)).trans (by omega)
    rw [e1, cond_true, ew]
    unfold i87aa_0 v87aa_0_m5
    rw [hin]
    rfl
  · show stp87a (n : Int) rb rc ps (n + 1) ((n + 1 : Nat) : Int) (tab (n + 1) (tabs ps c n)) = _
    unfold stp87a
    have e1 : decide (((n + 1 : Nat) : Int) ≤ (n : Int)) = false := decide_eq_false (by omega)
    rw [e1]
    rfl
theorem table_val {rb : Int} {ps : List (List AV)} {n c : Nat} (hps : okPs ps) (hn : n ≤ 2000) (hc : c < 10) : g87 (n : Int) rb (c : Int) ps = true ∧ w87_0 (n : Int) rb (c : Int) ps = tab (n + 1) (tabs ps c n) := by
  have ew : IntKind.i64.wrap ((n : Int) + 1) = ((n + 1 : Nat) : Int) := (wrap64 (by omega) (by omega)).trans (by omega)
  have ez : (tab (n + 1) (fun _ _ => 0)).set 0 (setCs ((tab (n + 1) (fun _ _ => 0)).getD 0 []) c [.i .i64 1]) = tab (n + 1) (tabs ps c 0) := tab_set (by omega) hc
  have ho := router (rb := rb) (rc := (c : Int)) (c := c) hps hn
  have cc := cts91 hc
  simp only [Int.toNat_natCast, Nat.zero_add, Nat.mul_one] at cc
  have ic : inb (c : Int) 10 = true := by simp [inb_nat, hc]
  have i0 : inb 0 (n + 1) = true := by simp [inb]
  have d1 : decide ((0 : Int) ≤ ((n + 1 : Nat) : Int)) = true := decide_eq_true (by omega)
  have d2 : decide (((n + 1 : Nat) : Int) * ((80 : Nat) : Int) ≤ 140737488355328) = true := decide_eq_true (by omega)
  have d3 : decide (((n + 1 : Nat) : Int) ≤ 9223372036854775807) = true := decide_eq_true (by omega)
  have iv : i87a_0 (n : Int) rb (c : Int) ps (n + 1) 1 (tab (n + 1) (tabs ps c 0)) = true := by
    unfold i87a_0
    rw [ho]
  have vv : v87a_0_m5 (n : Int) rb (c : Int) ps (n + 1) 1 (tab (n + 1) (tabs ps c 0)) = tab (n + 1) (tabs ps c n) := by
    unfold v87a_0_m5
    rw [ho]
  have b1 : Nat.ble (n + 1) (n + 1) = true := by simp
  have b2 : Nat.beq (n + 1) (n + 1) = true := by simp
  have b3 : Nat.blt 0 (n + 1) = true := by simp [Nat.blt_eq]
  have d2' : decide (((n + 1 : Nat) : Int) * 80 ≤ 140737488355328) = true := decide_eq_true (by omega)
  unfold g87 w87_0 t87
  simp only [ew, Int.toNat_natCast, tab_zero, Nat.zero_add, Nat.mul_one, ez, tab_len, cc, ic, i0, d1, d2', d3, iv, vv, b1, b2, b3, Bool.and_true, Tr.g, Tr.val, cond_true, decide_true, and_self]
end Go.Proofs.Ytgifjphinkbcaaa

set_option maxRecDepth 100000
set_option linter.unusedVariables false
namespace Go.Proofs.Ytgifjphinkbcaaa
open Go Go.Ev
theorem of_tab {N n b : Nat} {T : Nat → Nat → Int} (hn : n < N) (hb : b < 10) : g51 (tab N T) (n : Int) (b : Int) = true ∧ w51_0 (tab N T) (n : Int) (b : Int) = T n b := by
  have c := cts91 hb
  have i1 : inb (n : Int) N = true := by simp [inb_nat, hn]
  have i2 : inb (b : Int) 10 = true := by simp [inb_nat, hb]
  simp only [Int.toNat_natCast, Nat.zero_add, Nat.mul_one] at c
  unfold g51 w51_0 t51
  simp only [tab_len, i1, i2, Int.toNat_natCast, Nat.zero_add, Nat.mul_one, c, Tr.g, Tr.val, cond_true, tab_get hn, tabR_get hb, and_self]
theorem ways_err {ra rb rc : Int} {ps : List (List AV)} (h : w29_0 ra rb rc ps ≠ 0) : g20 ra rb rc ps = true ∧ w20_1 ra rb rc ps ≠ 0 := by
  have hb : (w29_0 ra rb rc ps != 0) = true := by simpa using h
  have h1 : g50 ra rb rc ps = true := by
    unfold g50 t50
    rw [g29_true, hb]; rfl
  have h2 : w50_1 ra rb rc ps = w29_0 ra rb rc ps := by
    unfold w50_1 t50
    rw [g29_true, hb]; rfl
  unfold g20 w20_1 t20
  rw [h1, h2, hb]
  exact ⟨rfl, h⟩
theorem ways_val {ps : List (List AV)} {n b c : Nat} (hps : okPs ps) (hn : n ≤ 2000) (hb : b < 10) (hc : c < 10) (hw : w29_0 (n : Int) (b : Int) (c : Int) ps = 0) :
    g20 (n : Int) (b : Int) (c : Int) ps = true ∧ ((tabs ps c n n b > 1000000000000000 ∧ w20_1 (n : Int) (b : Int) (c : Int) ps = 3 ∧ w20_0 (n : Int) (b : Int) (c : Int) ps = 0) ∨ (tabs ps c n n b ≤ 1000000000000000 ∧ w20_1 (n : Int) (b : Int) (c : Int) ps = 0 ∧ w20_0 (n : Int) (b : Int) (c : Int) ps = tabs ps c n n b)) := by
  obtain ⟨c1, c2⟩ := count_val (rb := (b : Int)) hps hn hc
  obtain ⟨o1, o2⟩ := of_tab (N := n + 1) (n := n) (b := b) (T := tabs ps c n) (by omega) hb
  have p0 : w52_0 (n : Int) (b : Int) (c : Int) ps = (n : Int) := rfl
  have p1 : w52_1 (n : Int) (b : Int) (c : Int) ps = (b : Int) := rfl
  have hz : (w29_0 (n : Int) (b : Int) (c : Int) ps != 0) = false := by simp [hw]
  cases hd : decide (tabs ps c n n b > 1000000000000000) with
  | true =>
    have h1 : g50 (n : Int) (b : Int) (c : Int) ps = true := by
      unfold g50 t50
      simp only [g29_true, hz, c1, c2, p0, p1, o1, o2, hd, Tr.g, cond_true, cond_false]
    have h2 : w50_1 (n : Int) (b : Int) (c : Int) ps = 3 := by
      unfold w50_1 t50
      simp only [g29_true, hz, c1, c2, p0, p1, o1, o2, hd, Tr.val, cond_true, cond_false]
    unfold g20 w20_1 w20_0 t20
    rw [h1, h2]
    exact ⟨rfl, .inl ⟨of_decide_eq_true hd, rfl, rfl⟩⟩
  | false =>
    have h1 : g50 (n : Int) (b : Int) (c : Int) ps = true := by
      unfold g50 t50
      simp only [g29_true, hz, c1, c2, p0, p1, o1, o2, hd, Tr.g, cond_true, cond_false]
    have h2 : w50_1 (n : Int) (b : Int) (c : Int) ps = 0 := by
      unfold w50_1 t50
      simp only [g29_true, hz, c1, c2, p0, p1, o1, o2, hd, Tr.val, cond_true, cond_false]
    have h3 : w50_0 (n : Int) (b : Int) (c : Int) ps = tab (n + 1) (tabs ps c n) := by
      unfold w50_0 t50
      simp only [g29_true, hz, c1, c2, p0, p1, o1, o2, hd, Tr.val, cond_true, cond_false]
    have hz2 : ((0 : Int) != 0) = false := by decide
    unfold g20 w20_1 w20_0 t20
    simp only [h1, h2, h3, hz2, p0, p1, o1, o2, Tr.g, Tr.val, cond_true, cond_false]
    exact ⟨trivial, .inr ⟨by have := of_decide_eq_false hd; omega, trivial, trivial⟩⟩
end Go.Proofs.Ytgifjphinkbcaaa

set_option maxRecDepth 100000
set_option linter.unusedVariables false
namespace Go.Proofs.Ytgifjphinkbcaaa
open Go Go.Ev
def acc (T : Nat → Nat → Int) (i h : Nat) (a : Int) (p : List AV) : Int := if pA p = h ∧ pL p ≤ i then bmin (a + T (i - pL p) (pB p)) cap else a
theorem lvlP_other {i n : Nat} {T : Nat → Nat → Int} {p : List AV} (h : n ≠ i) : lvlP i T p n = T n := by
  unfold lvlP lvl1
  split
  · unfold upd2
    rw [if_neg h]
  · rfl
theorem lvl_other (ps : List (List AV)) {i n : Nat} (h : n ≠ i) : ∀ {T : Nat → Nat → Int}, lvl ps i T n = T n := by
  induction ps with
  | nil => intro T; rfl
  | cons p ps ih =>
    intro T
    show lvl ps i (lvlP i T p) n = T n
    rw [ih, lvlP_other h]
theorem acc_congr {T T' : Nat → Nat → Int} {i h : Nat} {ps : List (List AV)} (hps : ∀ p, p ∈ ps → 1 ≤ pL p) (hT : ∀ n, n < i → T n = T' n) : ∀ a, ps.foldl (acc T i h) a = ps.foldl (acc T' i h) a := by
  induction ps with
  | nil => intro a; rfl
  | cons p ps ih =>
    intro a
    have hp := hps p (by simp)
    have e : acc T i h a p = acc T' i h a p := by
      unfold acc
      split
      · rename_i hc
        rw [hT (i - pL p) (by omega)]
      · rfl
    simp only [List.foldl_cons, e]
    exact ih (fun q hq => hps q (by simp [hq])) _
theorem lvl_row {i h : Nat} {ps : List (List AV)} (hps : ∀ p, p ∈ ps → 1 ≤ pL p) : ∀ {T : Nat → Nat → Int}, lvl ps i T i h = ps.foldl (acc T i h) (T i h) := by
  induction ps with
  | nil => intro T; rfl
  | cons p ps ih =>
    intro T
    have hp := hps p (by simp)
    have hps' : ∀ q, q ∈ ps → 1 ≤ pL q := fun q hq => hps q (by simp [hq])
    show lvl ps i (lvlP i T p) i h = ps.foldl (acc T i h) (acc T i h (T i h) p)
    rw [ih hps', acc_congr hps' (T' := T) (fun n hn => lvlP_other (by omega))]
    congr 1
    unfold lvlP lvl1 acc
    by_cases h1 : pL p ≤ i
    · rw [if_pos h1]
      unfold upd2
      rw [if_pos rfl]
      unfold upd
      by_cases h2 : pA p = h
      · rw [if_pos h2.symm, if_pos ⟨h2, h1⟩, h2]
      · rw [if_neg (fun e => h2 e.symm), if_neg (fun e => h2 e.1)]
    · rw [if_neg h1, if_neg (fun e => h1 e.2)]
theorem tabs_zero (ps : List (List AV)) (c : Nat) : ∀ (i n h : Nat), i < n → tabs ps c i n h = 0
  | 0, n, h, hn => by
    show T0 c n h = 0
    unfold T0 upd2
    rw [if_neg (by omega)]
  | i + 1, n, h, hn => by
    show lvl ps (i + 1) (tabs ps c i) n h = 0
    rw [lvl_other ps (by omega)]
    exact tabs_zero ps c i n h (by omega)
theorem tabs_stable (ps : List (List AV)) (c : Nat) {n : Nat} : ∀ {m : Nat}, n ≤ m → tabs ps c m n = tabs ps c n n
  | 0, h => by
    have : n = 0 := by omega
    subst this; rfl
  | m + 1, h => by
    rcases Nat.eq_or_lt_of_le h with e | e
    · rw [e]
    · show lvl ps (m + 1) (tabs ps c m) n = _
      rw [lvl_other ps (by omega)]
      exact tabs_stable ps c (by omega)
/-- How many ways there are, of a length and from a height. -/
def cnt (ps : List (List AV)) (c n h : Nat) : Int := tabs ps c n n h
theorem cnt_rec {ps : List (List AV)} {c n h : Nat} (hps : okPs ps) : cnt ps c (n + 1) h = ps.foldl (acc (fun k => cnt ps c k) (n + 1) h) 0 := by
  have hp : ∀ p, p ∈ ps → 1 ≤ pL p := fun p hm => by
    obtain ⟨h1, _⟩ := hps.2 p hm
    unfold pL; omega
  show lvl ps (n + 1) (tabs ps c n) (n + 1) h = _
  rw [lvl_row hp, tabs_zero ps c n (n + 1) h (by omega)]
  refine acc_congr hp (fun k hk => ?_) 0
  funext h'
  show tabs ps c n k h' = tabs ps c k k h'
  rw [tabs_stable ps c (by omega)]
theorem cnt_ok (ps : List (List AV)) (c n h : Nat) : 0 ≤ cnt ps c n h ∧ cnt ps c n h ≤ cap := tabs_ok ps c n n h
/-- Partial sums never go down; where the last one is small, none has been cut. -/
theorem acc_mono {T : Nat → Nat → Int} {i h : Nat} (hT : okT T) {a : Int} (ha : a ≤ cap) (p : List AV) : a ≤ acc T i h a p ∧ acc T i h a p ≤ cap := by
  unfold acc
  split
  · have := hT (i - pL p) (pB p)
    rw [bmin_le]
    split <;> omega
  · exact ⟨Int.le_refl _, ha⟩
theorem acc_fold {T : Nat → Nat → Int} {i h : Nat} (hT : okT T) : ∀ (ps : List (List AV)) {a : Int}, a ≤ cap → a ≤ ps.foldl (acc T i h) a ∧ ps.foldl (acc T i h) a ≤ cap
  | [], a, ha => ⟨Int.le_refl _, ha⟩
  | p :: ps, a, ha => by
    obtain ⟨h1, h2⟩ := acc_mono (i := i) (h := h) hT ha p
    obtain ⟨h3, h4⟩ := acc_fold (i := i) (h := h) hT ps h2
    exact ⟨Int.le_trans h1 h3, h4⟩
end Go.Proofs.Ytgifjphinkbcaaa

set_option maxRecDepth 100000
set_option linter.unusedVariables false
set_option linter.unusedSimpArgs false
namespace Go.Proofs.Ytgifjphinkbcaaa
open Go Go.Ev
noncomputable def bd89 : Code := match Try.f89.body with | some c => c | _ => .skip
noncomputable def at89 (p : List Bool) : Code := match locate bd89 p with | some c => c | _ => .skip
noncomputable def q0 : Code := at89 [false]
noncomputable def q1 : Code := at89 [true, false, false]
noncomputable def q2 : Code := at89 [true, false, true, false, false]
noncomputable def q3 : Code := at89 [true, true, false]
noncomputable def q4 : Code := at89 [true, true, true, false, false]
noncomputable def qB : Code := match at89 [true, true, true, false, true, false] with | .loop c => c | _ => .skip
noncomputable def atB (p : List Bool) : Code := match locate qB p with | some c => c | _ => .skip
noncomputable def q5 : Code := atB [false, false]
noncomputable def q7 : Code := atB [true, false, false, false, false]
noncomputable def q8 : Code := atB [true, false, false, false, true, false, false]
noncomputable def q9 : Code := atB [true, false, false, true]
noncomputable def q6 : Code := atB [true, true]
noncomputable def q10 : Code := at89 [true, true, true, true, false]
noncomputable def q11 : Code := at89 [true, true, true, true, true, false]
theorem bd89_eq : bd89 = .seq q0 (.seq (.seq q1 (.cond (.tmp 15) (.seq q2 .ret) .skip)) (.seq q3 (.seq (.seq q4 (.block 0 (.loop qB))) (.seq q10 (.seq q11 .ret))))) := by kernel_rfl
theorem qB_eq : qB = .seq (.seq q5 (.cond (.tmp 40) .skip (.exit 0))) (.seq (.block 1 (.seq (.seq q7 (.cond (.tmp 51) (.seq q8 .ret) .skip)) q9)) q6) := by kernel_rfl
noncomputable def ops2 : Array Oper := match q2 with | .region _ o _ => o | _ => #[]
noncomputable def ops7 : Array Oper := match q7 with | .region _ o _ => o | _ => #[]
def rpR (da db : Int) (cs : List (List AV)) : AV := .rp [.int .i64, .int .i64, .sl 64] [.i .i64 da, .i .i64 db, .rs 64 cs] 0
def rpY (l : Nat) : AV := .rp [.oth] [.yl l] 0
def rpM (q0 q1 q2 q3 q4 q5 q6 q7 : Int) : AV := .rp [.int .i64, .int .i64, .int .i64, .int .i64, .int .i64, .int .i64, .int .i64, .int .i64] [.i .i64 q0, .i .i64 q1, .i .i64 q2, .i .i64 q3, .i .i64 q4, .i .i64 q5, .i .i64 q6, .i .i64 q7] 0
/-- One piece, and what is kept behind it. -/
noncomputable def piece (c : Code) (ts : List Nat) (st : St) : Option (Ex × List AV × Blk) := evC Try.prog S0 (ro 89) (fun _ _ => none) c [] st fun e s => some (e, ts.map (gt s.t), gm s.m 0)
noncomputable def pieceB (ops : Array Oper) (k : Nat) (ts : List Nat) (st : St) : Option (List AV × Blk) := evOpsB Try.prog S0 (ro 89) ops st.nx (ops.toList.take k) 0 st fun s => some (ts.map (gt s.t), gm s.m 0)
/-- At a head. -/
noncomputable def stH (vs : List AV) (X : List AV) : St := { t := [0, 1, 2, 3, 4, 5, 6, 10].zip vs, m := [(0, .row 104 [X])], nx := 1, nt := 57 }
noncomputable def st0 (j room : Int) (v2 v3 v5 v6 : AV) (X : List AV) : St := initSt 57 [.i .i64 j, .i .i64 room, v2, v3, .p 0 0 0, v5, v6] [.row 104 [X]]
end Go.Proofs.Ytgifjphinkbcaaa

set_option maxRecDepth 100000
set_option linter.unusedVariables false
set_option linter.unusedSimpArgs false
namespace Go.Ev
open Go
variable {P : Program} {S : Spec} {RO : Nat → Bool} {L : LSpec} {X : Nat → Nat → Prop} {R : Nat → Option (Nat × Nat × Nat)} {st : St} {a : Act} {w : World} {n : Nat} {Q : Exit → Act → World → Prop}
theorem gt_zip {D : Nat → Nat → Prop} {f : Nat → Value} : ∀ (ts : List Nat) (vs : List AV), (∀ k, k < ts.length → VR P D R w (vs.getD k .u) (f (ts.getD k 0))) → ∀ t, VR P D R w (gt (ts.zip vs) t) (f t)
  | [], vs, _, t => .u
  | a :: ts, [], _, t => .u
  | a :: ts, v :: vs, h, t => by
    simp only [List.zip_cons_cons, gt_cons]
    by_cases e : t = a
    · subst e
      simpa using h 0 (by simp)
    · simp only [e, if_false]
      exact gt_zip ts vs (fun k hk => by simpa using h (k + 1) (by simpa using hk)) t
theorem piece_sound (hs : SpecOK P S) (hm : P.follows .mixedOrders = true) {b0 : Nat} {s0 : Nat × Nat} (hR00 : R 0 = some (b0, s0)) (h : SR P ⟨w, rowsOf R, fun id => id < 1, w.heap.size, Nat.le_refl _⟩ (XR X R) (XR X R) R st a w)
    (hf : Fresh R st.nx) (hnx : 1 ≤ st.nx) {c : Code} (hL : LOK P S RO L 1 true c []) {ts : List Nat} {e0 : Ex} {vs : List AV} {e : TypeId} {es : List (List AV)} (hes : es ≠ [])
    (he : (evC P S RO L c [] st fun e s => some (e, ts.map (gt s.t), gm s.m 0)) = some (e0, vs, .row e es)) (hfr : freeL P 1 vs = true) (hfb : freeB P 1 (.row e es) = true)
    (hn : ∀ a' w', LeftP P X R st a w ts vs (.row e es) a' w' → Q e0.exit a' w') : c.wpIn (FW none) n P Q a w := by
  refine evC_sound hs hm c [] 1 true none n hL (fun h => by cases h) h hf hnx he fun D' R' e' st' a' w' hS hf' hRR hd _ ht hK => ?_
  simp only [Option.some.injEq, Prod.mk.injEq] at hK
  obtain ⟨rfl, rfl, hrow⟩ := hK
  exact hn a' w' (left_of hR00 hes hS hRR (hd rfl) ht hfr hrow hfb)
theorem pieceB_sound (hs : SpecOK P S) {b0 : Nat} {s0 : Nat × Nat} (hR00 : R 0 = some (b0, s0)) (h : SR P ⟨w, rowsOf R, fun id => id < 1, w.heap.size, Nat.le_refl _⟩ (XR X R) (XR X R) R st a w)
    (hf : Fresh R st.nx) (hnx : 1 ≤ st.nx) {ops : Array Oper} {k : Nat} {rest : List Nat} (hk : k ≤ ops.size) {ts : List Nat} {vs : List AV} {e : TypeId} {es : List (List AV)} (hes : es ≠ [])
    (he : (evOpsB P S RO ops st.nx (ops.toList.take k) 0 st fun s => some (ts.map (gt s.t), gm s.m 0)) = some (vs, .row e es)) (hfr : freeL P 1 vs = true) (hfb : freeB P 1 (.row e es) = true)
    (hn : ∀ a' w', LeftP P X R st a w ts vs (.row e es) a' w' → wpOpsIn (FW none) n P ops Q rest a' w') : wpOpsIn (FW none) n P ops Q (List.range' 0 k ++ rest) a w := by
  have hl : (ops.toList.take k).length = k := by simp; omega
  rw [← hl]
  refine evOpsB_cut hs (ops.toList.take k) 0 (fun i hi => ?_) h (by simpa using hf) he fun D' R' st' a' w' hS hf' hRR hd hx ht hK => ?_
  · rw [hl] at hi
    simp [List.getElem?_take, hi]
  · simp only [Option.some.injEq, Prod.mk.injEq] at hK
    obtain ⟨rfl, hrow⟩ := hK
    exact hn a' w' (left_of hR00 hes hS (fun id hid => .inl (hRR id (by omega))) hd ht hfr hrow hfb)
/-- Cells that others may not write stay. -/
def GoodW (X : Nat → Nat → Prop) (R : Nat → Option (Nat × Nat × Nat)) (W W' : World) : Prop := W.heap.size ≤ W'.heap.size ∧ ∀ b o u, ¬ XR X R b o → W.cell? ⟨b, o, none⟩ = some u → W'.cell? ⟨b, o, none⟩ = some u
theorem GoodW.refl {W : World} : GoodW X R W W := ⟨Nat.le_refl _, fun _ _ _ _ h => h⟩
theorem GoodW.trans {W W' W'' : World} (h : GoodW X R W W') (h' : GoodW X R W' W'') : GoodW X R W W'' := ⟨Nat.le_trans h.1 h'.1, fun b o u hd hc => h'.2 b o u hd (h.2 b o u hd hc)⟩
theorem GoodW.VR {W W' : World} (h : GoodW X R W W') {x : AV} {v : Value} (hv : VR P (XR X R) R W x v) : VR P (XR X R) R W' x v := hv.mono' (fun _ _ e => e) fun b o u hd hc => ⟨hd, h.2 b o u hd hc⟩
theorem good_below {W W' : World} (h : BelowY ⟨W, rowsOf R, fun id => id < 1, W.heap.size, Nat.le_refl _⟩ W') : GoodW X R W W' := by
  refine ⟨h.size, fun b o u hd hc => ?_⟩
  have hb : b < W.heap.size := by
    obtain ⟨ob, h5, _⟩ := cells_of_cell hc
    exact (Array.getElem?_eq_some_iff.1 h5).1
  exact (World.cell?_of_block (h.block b hb fun hr => hd (.inr hr))).trans hc
theorem good_kp {Y : Nat → Prop} {W W' : World} (h : KpOf Y W W') (hY : ∀ b o, Y b → X b o) : GoodW X R W W' := by
  refine ⟨h.size, fun b o u hd hc => ?_⟩
  obtain ⟨ob, h5, h6⟩ := cells_of_cell hc
  exact (World.cell?_of_block ((h.same b ob h5 h6 fun hy => hd (.inl (hY b o hy))).trans h5.symm)).trans hc
theorem row_kp {Y : Nat → Prop} {W W' : World} (h : KpOf Y W W') (hY : ∀ b o, Y b → X b o) (hX : ∀ b s o, R 0 = some (b, s) → ¬ X b o) {e : TypeId} {es : List (List AV)} (hr : RowOK P (XR X R) R W 0 (.row e es)) : RowOK P (XR X R) R W' 0 (.row e es) := by
  intro hne
  obtain ⟨b, cells, ty, g1, g2, g3, g4, g5, g6, g7⟩ := hr hne
  refine ⟨b, cells, ty, g1, (h.same b _ g2 rfl fun hy => hX b _ 0 g1 (hY b 0 hy)), g3, g4, g5, g6, fun i j hi hj => ?_⟩
  obtain ⟨v, k1, k2⟩ := g7 i j hi hj
  exact ⟨v, k1, (good_kp h hY).VR k2⟩
end Go.Ev

set_option maxRecDepth 100000
set_option linter.unusedVariables false
set_option linter.unusedSimpArgs false
namespace Go.Proofs.Ytgifjphinkbcaaa
open Go Go.Ev
abbrev ts8 : List Nat := [0, 1, 2, 3, 4, 5, 6, 10]
abbrev rw0 (X : List AV) : Blk := .row 104 [X]
noncomputable def o2a : Oper := (ops2[2]?).getD default
noncomputable def o2b : Oper := (ops2[3]?).getD default
noncomputable def o7a : Oper := (ops7[4]?).getD default
noncomputable def o7b : Oper := (ops7[5]?).getD default
theorem o2a_at : ops2[2]? = some o2a := by kernel_rfl
theorem o2a_op : o2a.op = .call { callee := .value (.tmp 16), args := #[.tmp 17], argTypes := #[104] } := by kernel_rfl
theorem o2a_g : o2a.guard = none := by kernel_rfl
theorem o2a_d : o2a.dst = some 18 := by kernel_rfl
theorem o2b_at : ops2[3]? = some o2b := by kernel_rfl
theorem o2b_op : o2b.op = .assign (.tmp 18) := by kernel_rfl
theorem o2b_g : o2b.guard = none := by kernel_rfl
theorem o2b_d : o2b.dst = some 9 := by kernel_rfl
theorem o7a_at : ops7[4]? = some o7a := by kernel_rfl
theorem o7a_op : o7a.op = .call { callee := .value (.tmp 46), args := #[.tmp 48, .tmp 49], argTypes := #[3, 3] } := by kernel_rfl
theorem o7a_g : o7a.guard = none := by kernel_rfl
theorem o7a_d : o7a.dst = some 50 := by kernel_rfl
theorem o7b_at : ops7[5]? = some o7b := by kernel_rfl
theorem o7b_op : o7b.op = .unOp .not 4 (.tmp 50) := by kernel_rfl
theorem o7b_g : o7b.guard = none := by kernel_rfl
theorem o7b_d : o7b.dst = some 51 := by kernel_rfl
theorem q2_eq : q2 = .region 2 ops2 false := by kernel_rfl
theorem q7_eq : q7 = .region 7 ops7 false := by kernel_rfl
theorem sz2 : ops2.size = 4 := by kernel_rfl
theorem sz7 : ops7.size = 6 := by kernel_rfl
theorem body89 : Try.f89.body = some bd89 := by kernel_rfl
theorem res89 : Try.f89.results = #[.tmp 9] := by kernel_rfl
theorem lokP (c : Code) (h : (match c with | .region _ _ _ => true | .seq (.region _ _ _) (.region _ _ _) => true | _ => false) = true) : LOK Try.prog S0 (ro 89) (fun _ _ => none) 1 true c [] := by
  split at h
  · trivial
  · exact ⟨trivial, trivial⟩
  · cases h
variable (da db : Int) (cs : List (List AV)) (m0 m1 m2 m3 m4 m5 m6 m7 : Int) (j room w : Int) (l : Nat) (v6 v10 : AV) (X : List AV)
/-- The temporaries at a head. -/
noncomputable def vH (j room : Int) (v6 v10 : AV) : List AV := [.i .i64 j, .i .i64 room, rpR da db cs, rpY l, .p 0 0 0, rpM m0 m1 m2 m3 m4 m5 m6 m7, v6, v10]
noncomputable def fn89 (v6 : AV) : AV := .fn 89 [rpR da db cs, rpY l, .p 0 0 0, rpM m0 m1 m2 m3 m4 m5 m6 m7, v6]
noncomputable def gj (j : Int) : Bool := ctsAt (cts Try.prog 104) (0 + j.toNat * 1) (cts Try.prog 3)
theorem pe0 : piece q0 ts8 (st0 j room (rpR da db cs) (rpY l) (rpM m0 m1 m2 m3 m4 m5 m6 m7) v6 X) = some (.nrm, vH da db cs m0 m1 m2 m3 m4 m5 m6 m7 l j room v6 .u, rw0 X) := by kernel_rfl
theorem pe1 : piece q1 [0, 1, 2, 3, 4, 5, 6, 10, 15] (stH (vH da db cs m0 m1 m2 m3 m4 m5 m6 m7 l j room v6 .u) X) = some (.nrm, vH da db cs m0 m1 m2 m3 m4 m5 m6 m7 l j room v6 .u ++ [.b (j == (cs.length : Int))], rw0 X) := by kernel_rfl
theorem pe2 : pieceB ops2 2 [16, 17] (stH (vH da db cs m0 m1 m2 m3 m4 m5 m6 m7 l j room v6 .u) X) = some ([.yl l, .agg [.i .i64 (fI X 0), .i .i64 (fI X 1), .i .i64 (fI X 2), .i .i64 (fI X 3), .i .i64 (fI X 4), .i .i64 (fI X 5), .i .i64 (fI X 6), .i .i64 (fI X 7)]], rw0 X) := by kernel_rfl
theorem pe3 : piece q3 ts8 (stH (vH da db cs m0 m1 m2 m3 m4 m5 m6 m7 l j room v6 .u) X) = cond (inb j cs.length) (some (.nrm, vH da db cs m0 m1 m2 m3 m4 m5 m6 m7 l j room v6 (.i .i64 (IntKind.i64.wrap (fI (cs.getD j.toNat []) 0 + db))), rw0 X)) none := by kernel_rfl
theorem pe4 : piece q4 ts8 (stH (vH da db cs m0 m1 m2 m3 m4 m5 m6 m7 l j room v6 (.i .i64 w)) X) = cond (inb j 8) (cond (gj j && Nat.blt 0 1) (some (.nrm, vH da db cs m0 m1 m2 m3 m4 m5 m6 m7 l j room v6 (.i .i64 w), rw0 (setCs X (0 + j.toNat * 1) [.i .i64 0]))) none) none := by kernel_rfl
theorem pe5 : piece q5 [0, 1, 2, 3, 4, 5, 6, 10, 40] (stH (vH da db cs m0 m1 m2 m3 m4 m5 m6 m7 l j room v6 (.i .i64 w)) X) = cond (inb j 8) (cond (gj j && Nat.blt 0 1) (cond (inb j 8) (cond (ctsAt [CT.int IntKind.i64, CT.int IntKind.i64, CT.int IntKind.i64, CT.int IntKind.i64, CT.int IntKind.i64, CT.int IntKind.i64, CT.int IntKind.i64, CT.int IntKind.i64] (0 + j.toNat * 1) (cts Try.prog 3))
    (cond (decide (fI X (0 + j.toNat * 1) ≤ fI [AV.i IntKind.i64 m0, AV.i IntKind.i64 m1, AV.i IntKind.i64 m2, AV.i IntKind.i64 m3, AV.i IntKind.i64 m4, AV.i IntKind.i64 m5, AV.i IntKind.i64 m6, AV.i IntKind.i64 m7] (0 + j.toNat * 1)))
      (some (.nrm, vH da db cs m0 m1 m2 m3 m4 m5 m6 m7 l j room v6 (.i .i64 w) ++ [.b (decide (room ≥ 0))], rw0 X)) (some (.nrm, vH da db cs m0 m1 m2 m3 m4 m5 m6 m7 l j room v6 (.i .i64 w) ++ [.b false], rw0 X))) none) none) none) none := by kernel_rfl
theorem pe7 : pieceB ops7 4 [0, 1, 2, 3, 4, 5, 6, 10, 46, 48, 49] (stH (vH da db cs m0 m1 m2 m3 m4 m5 m6 m7 l j room (.rp [.oth] [fn89 da db cs m0 m1 m2 m3 m4 m5 m6 m7 l v6] 0) (.i .i64 w)) X) =
    some (vH da db cs m0 m1 m2 m3 m4 m5 m6 m7 l j room (.rp [.oth] [fn89 da db cs m0 m1 m2 m3 m4 m5 m6 m7 l v6] 0) (.i .i64 w) ++ [fn89 da db cs m0 m1 m2 m3 m4 m5 m6 m7 l v6, .i .i64 (IntKind.i64.wrap (j + 1)), .i .i64 room], rw0 X) := by kernel_rfl
theorem pe8 : piece q8 [9] (stH (vH da db cs m0 m1 m2 m3 m4 m5 m6 m7 l j room v6 (.i .i64 w)) X) = some (.nrm, [.b false], rw0 X) := by kernel_rfl
theorem pe9 : piece q9 ts8 (stH (vH da db cs m0 m1 m2 m3 m4 m5 m6 m7 l j room v6 (.i .i64 w)) X) = some (.nrm, vH da db cs m0 m1 m2 m3 m4 m5 m6 m7 l j (IntKind.i64.wrap (room - w)) v6 (.i .i64 w), rw0 X) := by kernel_rfl
theorem pe6 : piece q6 ts8 (stH (vH da db cs m0 m1 m2 m3 m4 m5 m6 m7 l j room v6 (.i .i64 w)) X) = cond (inb j 8) (cond (gj j && Nat.blt 0 1) (cond (inb j 8) (cond (gj j && Nat.blt 0 1) (some (.nrm, vH da db cs m0 m1 m2 m3 m4 m5 m6 m7 l j room v6 (.i .i64 w), rw0 (setCs X (0 + j.toNat * 1) [.i .i64 (IntKind.i64.wrap (fI X (0 + j.toNat * 1) + 1))]))) none) none) none) none := by kernel_rfl
theorem peA : piece q10 ts8 (stH (vH da db cs m0 m1 m2 m3 m4 m5 m6 m7 l j room v6 (.i .i64 w)) X) = cond (inb j 8) (cond (gj j && Nat.blt 0 1) (some (.nrm, vH da db cs m0 m1 m2 m3 m4 m5 m6 m7 l j room v6 (.i .i64 w), rw0 (setCs X (0 + j.toNat * 1) [.i .i64 0]))) none) none := by kernel_rfl
theorem peB : piece q11 [9] (stH (vH da db cs m0 m1 m2 m3 m4 m5 m6 m7 l j room v6 (.i .i64 w)) X) = some (.nrm, [.b true], rw0 X) := by kernel_rfl

theorem fr8 (h : free Try.prog 1 v6 = true) (h' : free Try.prog 1 v10 = true) : freeL Try.prog 1 (vH da db cs m0 m1 m2 m3 m4 m5 m6 m7 l j room v6 v10) = true := by
  have : freeL Try.prog 1 (vH da db cs m0 m1 m2 m3 m4 m5 m6 m7 l j room v6 v10) = (free Try.prog 1 v6 && (free Try.prog 1 v10 && true)) := by kernel_rfl
  rw [this, h, h']; rfl
theorem frB (X : List AV) : freeB Try.prog 1 (rw0 X) = true := by kernel_rfl
theorem gj_at {k : Nat} (h : k < 8) : inb ((k : Nat) : Int) 8 = true ∧ gj k = true ∧ ctsAt [CT.int IntKind.i64, CT.int IntKind.i64, CT.int IntKind.i64, CT.int IntKind.i64, CT.int IntKind.i64, CT.int IntKind.i64, CT.int IntKind.i64, CT.int IntKind.i64] (0 + (k : Int).toNat * 1) (cts Try.prog 3) = true := by
  rcases k with _ | _ | _ | _ | _ | _ | _ | _ | k
  all_goals first | (exfalso; omega) | (exact ⟨by kernel_rfl, by kernel_rfl, by kernel_rfl⟩)
end Go.Proofs.Ytgifjphinkbcaaa

set_option maxRecDepth 100000
set_option linter.unusedVariables false
set_option linter.unusedSimpArgs false
namespace Go.Proofs.Ytgifjphinkbcaaa
open Go Go.Ev Go.RowKit
/-- What an array of eight hands over. -/
def ag8 (X : List AV) : AV := .agg [.i .i64 (fI X 0), .i .i64 (fI X 1), .i .i64 (fI X 2), .i .i64 (fI X 3), .i .i64 (fI X 4), .i .i64 (fI X 5), .i .i64 (fI X 6), .i .i64 (fI X 7)]
def enc8 (X : List AV) : List AV := [ag8 X]
def wid (db : Int) (cs : List (List AV)) (j : Nat) : Int := IntKind.i64.wrap (fI (cs.getD j []) 0 + db)
/-- The patterns, one behind the other: 'false': from a place on; 'true': from a count at a place on. -/
inductive PT (db : Int) (cs : List (List AV)) (ms : List AV) : Bool → Nat → Int → List AV → List (List AV) → List AV → Prop
  | leaf {room : Int} {X : List AV} : PT db cs ms false cs.length room X [enc8 X] X
  | node {j : Nat} {room : Int} {X X' : List AV} {l : List (List AV)} : j < cs.length → j < 8 → PT db cs ms true j room (setCs X j [.i .i64 0]) l X' → PT db cs ms false j room X l (setCs X' j [.i .i64 0])
  | stop {j : Nat} {room : Int} {X : List AV} : (decide (fI X j ≤ fI ms j) && decide (room ≥ 0)) = false → PT db cs ms true j room X [] X
  | step {j : Nat} {room : Int} {X X1 X2 : List AV} {l1 l2 : List (List AV)} : fI X j ≤ fI ms j → 0 ≤ room → PT db cs ms false (j + 1) room X l1 X1 →
      PT db cs ms true j (IntKind.i64.wrap (room - wid db cs j)) (setCs X1 j [.i .i64 (IntKind.i64.wrap (fI X1 j + 1))]) l2 X2 → PT db cs ms true j room X (l1 ++ l2) X2

/-- Around the iterator. -/
structure Env (l : Nat) (X : Nat → Nat → Prop) (Y : Nat → Prop) (R : Nat → Option (Nat × Nat × Nat)) (pb : Nat) (xs : List (List AV)) (J : (Nat → Prop) → Nat → World → Prop) (Jx : (Nat → Prop) → World → Prop) : Prop where
  R0 : R 0 = some (pb, 8, 0)
  R1 : ∀ id, 1 ≤ id → R id = none
  YX : ∀ b o, Y b → X b o
  pX : ∀ o, ¬ X pb o
  hJ : ∀ Z i W W', J Z i W → BelowZ Z W W' → J (fun b => Z b ∨ (W.heap.size ≤ b ∧ b < W'.heap.size)) i W'
  yield : ∀ Z i x W m, J Z i W → xs[i]? = some x → YieldAt (FW none) m Try.prog l (encV x) W fun e W' => (e = .returned (.bool true) ∧ J Z (i + 1) W' ∧ KpOf Y W W') ∨ (e = .returned (.bool false) ∧ Jx Z W' ∧ KpOf Y W W')
/-- The world at a place. -/
structure At (l : Nat) (X : Nat → Nat → Prop) (R : Nat → Option (Nat × Nat × Nat)) (pb : Nat) (p : List AV) (W : World) : Prop where
  xl : ∀ b o, X b o → b < W.heap.size
  pl : pb < W.heap.size
  row : RowOK Try.prog (XR X R) R W 0 (rw0 p)

variable {da db : Int} {cs : List (List AV)} {m0 m1 m2 m3 m4 m5 m6 m7 : Int} {l : Nat} {X : Nat → Nat → Prop} {Y : Nat → Prop} {R : Nat → Option (Nat × Nat × Nat)} {pb : Nat} {xs : List (List AV)} {J : (Nat → Prop) → Nat → World → Prop} {Jx : (Nat → Prop) → World → Prop}
noncomputable def RP (da db : Int) (cs : List (List AV)) (m0 m1 m2 m3 m4 m5 m6 m7 : Int) (l : Nat) : Nat → AV
  | 0 => .u
  | d + 1 => .rp [.oth] [fn89 da db cs m0 m1 m2 m3 m4 m5 m6 m7 l (RP da db cs m0 m1 m2 m3 m4 m5 m6 m7 l d)] 0
theorem RP_free : ∀ d, free Try.prog 1 (RP da db cs m0 m1 m2 m3 m4 m5 m6 m7 l d) = true
  | 0 => rfl
  | d + 1 => by
    have : free Try.prog 1 (RP da db cs m0 m1 m2 m3 m4 m5 m6 m7 l (d + 1)) = (free Try.prog 1 (RP da db cs m0 m1 m2 m3 m4 m5 m6 m7 l d) && true && true) := by kernel_rfl
    rw [this, RP_free d]; rfl
/-- At a head. -/
structure Hd (da db : Int) (cs : List (List AV)) (m0 m1 m2 m3 m4 m5 m6 m7 : Int) (l : Nat) (X : Nat → Nat → Prop) (R : Nat → Option (Nat × Nat × Nat)) (pb : Nat) (j room : Int) (v6 v10 : AV) (p : List AV) (a : Act) (W : World) : Prop where
  at_ : At l X R pb p W
  tmp : ∀ k, k < 8 → VR Try.prog (XR X R) R W ((vH da db cs m0 m1 m2 m3 m4 m5 m6 m7 l j room v6 v10).getD k .u) (a.tmps.getD (ts8.getD k 0) undef)
  nt : a.tmps.size = 57
  df : a.defers = []
theorem Hd.sr {j room : Int} {v6 v10 : AV} {p : List AV} {a : Act} {W : World} (E : Env l X Y R pb xs J Jx) (h : Hd da db cs m0 m1 m2 m3 m4 m5 m6 m7 l X R pb j room v6 v10 p a W) :
    SR Try.prog ⟨W, rowsOf R, fun id => id < 1, W.heap.size, Nat.le_refl _⟩ (XR X R) (XR X R) R (stH (vH da db cs m0 m1 m2 m3 m4 m5 m6 m7 l j room v6 v10) p) a W := by
  refine mkSR E.R1 (fun id b s e => ?_) h.at_.xl (fun t => ?_) h.nt rfl (fun id hid => ?_) h.at_.row h.df
  · rcases Nat.eq_zero_or_pos id with e0 | e0
    · rw [e0, E.R0] at e; cases e; exact ⟨h.at_.pl, by simp⟩
    · rw [E.R1 id e0] at e; cases e
  · exact gt_zip (f := fun t => a.tmps.getD t undef) ts8 _ (fun k hk => h.tmp k hk) t
  · cases id with
    | zero => omega
    | succ id => rfl
theorem Hd.fresh (E : Env l X Y R pb xs J Jx) : Fresh R 1 := fun id hid => E.R1 id hid
/-- Behind a piece. -/
theorem At.left {p p' : List AV} {W W' : World} {st : St} {a a' : Act} {ts : List Nat} {vs : List AV} (h : At l X R pb p W) (k : LeftP Try.prog X R st a W ts vs (rw0 p') a' W') : At l X R pb p' W' :=
  ⟨fun b o hx => Nat.lt_of_lt_of_le (h.xl b o hx) k.below.size, Nat.lt_of_lt_of_le h.pl k.below.size, k.row⟩
theorem Hd.left {j room : Int} {v6 v10 : AV} {p p' : List AV} {W W' : World} {st : St} {a a' : Act} {ts : List Nat} {vs : List AV} (h : At l X R pb p W) (hts : ts.take 8 = ts8) (hvs : vs.take 8 = vH da db cs m0 m1 m2 m3 m4 m5 m6 m7 l j room v6 v10) (hnt : st.nt = 57) (hd : a.defers = [])
    (k : LeftP Try.prog X R st a W ts vs (rw0 p') a' W') : Hd da db cs m0 m1 m2 m3 m4 m5 m6 m7 l X R pb j room v6 v10 p' a' W' := by
  have hl : 8 ≤ ts.length := by have := congrArg List.length hts; simp at this; omega
  refine ⟨h.left k, fun i hi => ?_, k.nt.trans hnt, k.df.trans hd⟩
  have := k.tmp i (by omega)
  have e1 : vs.getD i .u = (vs.take 8).getD i .u := by simp [List.getD_eq_getElem?_getD, List.getElem?_take, hi]
  have e2 : ts.getD i 0 = (ts.take 8).getD i 0 := by simp [List.getD_eq_getElem?_getD, List.getElem?_take, hi]
  rw [e1, e2, hvs, hts] at this
  exact this
theorem belowZ {Z : Nat → Prop} (E : Env l X Y R pb xs J Jx) (hZ : Z pb) {W W' : World} (h : BelowY ⟨W, rowsOf R, fun id => id < 1, W.heap.size, Nat.le_refl _⟩ W') : BelowZ Z W W' :=
  ⟨h.os, h.tape, h.output, h.size, fun k hk hz => h.block k hk fun ⟨id, s, e⟩ => hz (by
    rcases Nat.eq_zero_or_pos id with e0 | e0
    · rw [e0, E.R0] at e; cases e; exact hZ
    · rw [E.R1 id e0] at e; cases e)⟩
/-- What is to be shown of a place. -/
def Done (l : Nat) (X : Nat → Nat → Prop) (R : Nat → Option (Nat × Nat × Nat)) (pb : Nat) (J : (Nat → Prop) → Nat → World → Prop) (Jx : (Nat → Prop) → World → Prop) (W : World) (n : Nat) (p' : List AV) (e : Ending) (W' : World) : Prop :=
  (e = .returned (.bool true) ∧ ∃ Z', Z' pb ∧ J Z' n W' ∧ At l X R pb p' W' ∧ GoodW X R W W') ∨ (e = .returned (.bool false) ∧ ∃ Z', Jx Z' W')
end Go.Proofs.Ytgifjphinkbcaaa

set_option maxRecDepth 100000
set_option linter.unusedVariables false
set_option linter.unusedSimpArgs false
namespace Go.Proofs.Ytgifjphinkbcaaa
open Go Go.Ev Go.RowKit
variable {da db : Int} {cs : List (List AV)} {m0 m1 m2 m3 m4 m5 m6 m7 : Int} {l : Nat} {X : Nat → Nat → Prop} {Y : Nat → Prop} {R : Nat → Option (Nat × Nat × Nat)} {pb : Nat} {xs : List (List AV)} {J : (Nat → Prop) → Nat → World → Prop} {Jx : (Nat → Prop) → World → Prop}

theorem freeL_app {nb : Nat} : ∀ {x y : List AV}, freeL Try.prog nb x = true → freeL Try.prog nb y = true → freeL Try.prog nb (x ++ y) = true
  | [], y, _, h => h
  | a :: x, y, h, h' => by
    simp only [freeL, Bool.and_eq_true, List.cons_append] at h ⊢
    exact ⟨h.1, freeL_app h.2 h'⟩
theorem stp {Z : Nat → Prop} {i : Nat} {st : St} {a a' : Act} {W W' : World} {ts : List Nat} {vs : List AV} {blk : Blk} (E : Env l X Y R pb xs J Jx) (hZ : Z pb) (hJ : J Z i W) (k : LeftP Try.prog X R st a W ts vs blk a' W') :
    ∃ Z', Z' pb ∧ J Z' i W' ∧ GoodW X R W W' := ⟨_, .inl hZ, E.hJ _ _ _ _ hJ (belowZ E hZ k.below), good_below k.below⟩
theorem put_get {a : Act} {d t : Nat} {v : Value} (h : d < a.tmps.size) : (a.put (some d) v).tmps.getD t undef = if t = d then v else a.tmps.getD t undef := by
  show (a.tmps.setIfInBounds d v).getD t undef = _
  by_cases e : t = d
  · subst e; simp [Array.getD_eq_getD_getElem?, h]
  · simp [Array.getD_eq_getD_getElem?, Array.getElem?_setIfInBounds, e, Ne.symm e]
theorem put_size {a : Act} {d : Nat} {v : Value} : (a.put (some d) v).tmps.size = a.tmps.size := by
  show (a.tmps.setIfInBounds d v).size = _
  simp
theorem fin89 {A : Ending → World → Prop} {a : Act} {W : World} {b : Bool} (hd : a.defers = []) (ht : a.tmps.getD 9 undef = .bool b) (hA : A (.returned (.bool b)) W) : bodyPost Try.prog Try.f89 A .ret a W := by
  refine ⟨hd, .bool b, ?_, hA⟩
  simp only [results, res89]
  simpa [Array.getD_eq_getD_getElem?] using ht
theorem pre89 (E : Env l X Y R pb xs J Jx) {j room : Int} {v6 : AV} {p : List AV} {W : World} {Z : Nat → Prop} {i : Nat} {av : Array Value} (hv6 : free Try.prog 1 v6 = true) (h : At l X R pb p W) (hs : av.size = 7)
    (hv : ∀ k, k < 7 → VR Try.prog (XR X R) R W (([.i .i64 j, .i .i64 room, rpR da db cs, rpY l, .p 0 0 0, rpM m0 m1 m2 m3 m4 m5 m6 m7, v6] : List AV).getD k .u) (av.getD k undef)) (hZ : Z pb) (hJ : J Z i W) {Q : Exit → Act → World → Prop}
    (hc : ∀ a' W' Z', Hd da db cs m0 m1 m2 m3 m4 m5 m6 m7 l X R pb j room v6 .u p a' W' → a'.eval (.tmp 15) = .bool (j == (cs.length : Int)) → Z' pb → J Z' i W' → GoodW X R W W' →
      (Code.cond (.tmp 15) (.seq q2 .ret) .skip).wpIn (FW none) 0 Try.prog (Exit.then (fun a w => (Code.seq q3 (.seq (.seq q4 (.block 0 (.loop qB))) (.seq q10 (.seq q11 .ret)))).wpIn (FW none) 0 Try.prog Q a w) Q) a' W') :
    bd89.wpIn (FW none) 0 Try.prog Q { tmps := av ++ Array.replicate (57 - av.size) undef, defers := [] } W := by
  rw [bd89_eq]
  have h0 : SR Try.prog ⟨W, rowsOf R, fun id => id < 1, W.heap.size, Nat.le_refl _⟩ (XR X R) (XR X R) R (st0 j room (rpR da db cs) (rpY l) (rpM m0 m1 m2 m3 m4 m5 m6 m7) v6 p) { tmps := av ++ Array.replicate (57 - av.size) undef, defers := [] } W :=
    init_SR (args := [.i .i64 j, .i .i64 room, rpR da db cs, rpY l, .p 0 0 0, rpM m0 m1 m2 m3 m4 m5 m6 m7, v6]) (rows := [rw0 p]) h.xl E.R1 (fun id b s e => by
      rcases Nat.eq_zero_or_pos id with e0 | e0
      · rw [e0, E.R0] at e; cases e; exact ⟨h.pl, by simp⟩
      · rw [E.R1 id e0] at e; cases e) (fun id id' b s s' e e' => by
      rcases Nat.eq_zero_or_pos id with e0 | e0
      · rcases Nat.eq_zero_or_pos id' with e1 | e1
        · rw [e0, e1]
        · rw [E.R1 id' e1] at e'; cases e'
      · rw [E.R1 id e0] at e; cases e) rfl (fun id hid => by
      have : id = 0 := by simp at hid; omega
      subst this
      exact h.row) hs (show 7 ≤ 57 by decide) hv
  refine wpIn_seq (piece_sound S0_ok mixed E.R0 h0 (fun id hid => E.R1 id hid) (Nat.le_refl 1) (lokP q0 (by kernel_rfl)) (by simp) (pe0 da db cs m0 m1 m2 m3 m4 m5 m6 m7 j room l v6 p) (fr8 _ _ _ _ _ _ _ _ _ _ _ _ _ _ _ _ hv6 rfl) (frB p) fun a1 W1 k1 => ?_)
  obtain ⟨Z1, z1, j1, g1⟩ := stp E hZ hJ k1
  have H1 : Hd da db cs m0 m1 m2 m3 m4 m5 m6 m7 l X R pb j room v6 .u p a1 W1 := Hd.left h rfl rfl rfl rfl k1
  refine wpIn_seq (wpIn_seq (piece_sound S0_ok mixed E.R0 (H1.sr E) (fun id hid => E.R1 id hid) (Nat.le_refl 1) (lokP q1 (by kernel_rfl)) (by simp) (pe1 da db cs m0 m1 m2 m3 m4 m5 m6 m7 j room l v6 p) (freeL_app (fr8 _ _ _ _ _ _ _ _ _ _ _ _ _ _ _ _ hv6 rfl) rfl) (frB p) fun a2 W2 k2 => ?_))
  obtain ⟨Z2, z2, j2, g2⟩ := stp E z1 j1 k2
  have H2 : Hd da db cs m0 m1 m2 m3 m4 m5 m6 m7 l X R pb j room v6 .u p a2 W2 := Hd.left H1.at_ rfl rfl rfl H1.df k2
  exact hc a2 W2 Z2 H2 (k2.tmp 8 (by decide)).bool_inv z2 j2 (g1.trans g2)

theorem plain8 {D : Nat → Nat → Prop} {W : World} {p : List AV} {v : Value} (h : VR Try.prog D R W (ag8 p) v) : plain (ag8 p) = true := by
  obtain ⟨cv, _, _, h⟩ := h.agg_inv
  have k : ∀ i, i < 8 → IntKind.i64.min ≤ fI p i ∧ fI p i ≤ IntKind.i64.max := by
    intro i hi
    have := h i hi
    rcases i with _ | _ | _ | _ | _ | _ | _ | _ | i
    all_goals first | (exfalso; omega) | exact VR.int_inv this |>.2
  have := k 0 (by decide); have := k 1 (by decide); have := k 2 (by decide); have := k 3 (by decide)
  have := k 4 (by decide); have := k 5 (by decide); have := k 6 (by decide); have := k 7 (by decide)
  simp only [ag8, plain, plainL, Bool.and_eq_true, decide_eq_true_eq, and_true]
  exact ⟨k 0 (by decide), k 1 (by decide), k 2 (by decide), k 3 (by decide), k 4 (by decide), k 5 (by decide), k 6 (by decide), k 7 (by decide)⟩
/-- A leaf. -/
theorem leaf89 (E : Env l X Y R pb xs J Jx) {room : Int} {v6 : AV} {p : List AV} {W : World} {Z : Nat → Prop} {i : Nat} {av : Array Value} (hv6 : free Try.prog 1 v6 = true) (h : At l X R pb p W) (hs : av.size = 7)
    (hv : ∀ k, k < 7 → VR Try.prog (XR X R) R W (([.i .i64 (cs.length : Nat), .i .i64 room, rpR da db cs, rpY l, .p 0 0 0, rpM m0 m1 m2 m3 m4 m5 m6 m7, v6] : List AV).getD k .u) (av.getD k undef)) (hZ : Z pb) (hJ : J Z i W)
    (hx : xs[i]? = some (enc8 p)) : Calls Try.prog 89 av W (Done l X R pb J Jx W (i + 1) p) := by
  refine calls_of_FW (ro := none) (n := 0) (callsIn_of_wp Try.func89 body89 trivial ?_)
  refine pre89 E hv6 h hs hv hZ hJ fun a2 W2 Z2 H2 ht z2 j2 g2 => ?_
  refine wpIn_cond (t := true) (ht.trans (by simp)) ?_
  simp only [if_true]
  rw [q2_eq]
  refine wpIn_seq (wpIn_region ?_)
  rw [sz2, show List.range 4 = List.range' 0 2 ++ [2, 3] by decide]
  refine pieceB_sound S0_ok E.R0 (H2.sr E) (fun id hid => E.R1 id hid) (Nat.le_refl 1) (by rw [sz2]; decide) (by simp) (pe2 da db cs m0 m1 m2 m3 m4 m5 m6 m7 _ room l v6 p) (by kernel_rfl) (frB p) fun a3 W3 k3 => ?_
  obtain ⟨Z3, z3, j3, g3⟩ := stp E z2 j2 k3
  have A3 := H2.at_.left k3
  have hy : a3.eval (.tmp 16) = .func (.yield l) #[] #[] := by
    have := k3.tmp 0 (by decide)
    simp only [List.getD_cons_zero] at this
    show a3.tmps.getD 16 undef = _
    generalize a3.tmps.getD 16 undef = q at this
    cases this; rfl
  have sz3 : a3.tmps.size = 57 := k3.nt.trans rfl
  have df3 : a3.defers = [] := k3.df.trans H2.df
  simp only [wpOpsIn, o2a_at, o2b_at]
  rw [if_pos (by simp [Region.wanted, o2a_g])]
  have hx8 : VR Try.prog (XR X R) R W3 (ag8 p) (a3.eval (.tmp 17)) := k3.tmp 1 (by decide)
  refine yield_op o2a_op rfl rfl hy hx8 (plain8 hx8) (fun m => E.yield Z3 i _ W3 m j3 hx) fun e4 W4 he => ?_
  have tl : ∀ (b : Bool) (Q : Exit → Act → World → Prop), (∀ a', a'.defers = [] → a'.tmps.getD 9 undef = .bool b → Q .normal a' W4) → (if Region.wanted o2b (yielded ops2 (a3.put o2a.dst (.bool b)).tmps) = true then o2b.wpIn (FW none) 0 Try.prog (a3.put o2a.dst (.bool b)) W4 (fun a w => Q .normal a w) Q
      else (∀ f, o2b.about Try.prog W4 (a3.put o2a.dst (.bool b)).eval = some f → (FW none).fn f) ∧ Q .normal ((a3.put o2a.dst (.bool b)).put o2b.dst undef) W4) := by
    intro b Q hQ
    rw [if_pos (by simp [Region.wanted, o2b_g])]
    have e18 : (a3.put o2a.dst (.bool b)).eval (.tmp 18) = .bool b := by
      rw [o2a_d]
      exact (put_get (by rw [sz3]; decide)).trans (if_pos rfl)
    refine wpIn_value (w' := W4) (v := .bool b) (fun c hc => by rw [o2b_op] at hc; cases hc) (by simp only [execOp, o2b_op, e18, Sem.run_pure]) (hQ _ ?_ ?_)
    · rw [put_defers, put_defers]; exact df3
    · rw [o2b_d, o2a_d]
      exact (put_get (by rw [put_size, sz3]; decide)).trans (if_pos rfl)
  rcases he with ⟨rfl, j4, kp⟩ | ⟨rfl, jx, kp⟩
  · refine ⟨_, rfl, tl true _ fun a' hd' ht' => ?_⟩
    refine wpIn_ret (fin89 hd' ht' (.inl ⟨rfl, Z3, z3, j4, ⟨fun b o hb => Nat.lt_of_lt_of_le (A3.xl b o hb) kp.size, Nat.lt_of_lt_of_le A3.pl kp.size, row_kp kp E.YX (fun b s o e => ?_) A3.row⟩, (g2.trans g3).trans (good_kp kp E.YX)⟩))
    rw [E.R0] at e; cases e; exact E.pX o
  · refine ⟨_, rfl, tl false _ fun a' hd' ht' => ?_⟩
    exact wpIn_ret (fin89 hd' ht' (.inr ⟨rfl, Z3, jx⟩))
end Go.Proofs.Ytgifjphinkbcaaa

set_option maxRecDepth 100000
set_option linter.unusedVariables false
set_option linter.unusedSimpArgs false
namespace Go.Proofs.Ytgifjphinkbcaaa
open Go Go.Ev Go.RowKit
noncomputable def o8 : Oper := (match q8 with | .region _ o _ => o | _ => #[])[0]?.getD default
theorem q8_eq : q8 = .region 8 #[o8] false := by kernel_rfl
theorem o8_op : o8.op = .assign (.const (.bool false)) := by kernel_rfl
theorem o8_g : o8.guard = none := by kernel_rfl
theorem o8_d : o8.dst = some 9 := by kernel_rfl
section
variable (da db : Int) (cs : List (List AV)) (m0 m1 m2 m3 m4 m5 m6 m7 : Int) (l : Nat) (X : Nat → Nat → Prop) (R : Nat → Option (Nat × Nat × Nat)) (pb : Nat) (xs : List (List AV)) (J : (Nat → Prop) → Nat → World → Prop) (Jx : (Nat → Prop) → World → Prop)
def RecOK (j : Nat) (room : Int) (p : List AV) (lst : List (List AV)) (p' : List AV) : Prop :=
  ∀ (W : World) (Z : Nat → Prop) (i : Nat) (av : Array Value), At l X R pb p W → av.size = 7 →
    (∀ k, k < 7 → VR Try.prog (XR X R) R W (([.i .i64 (j : Nat), .i .i64 room, rpR da db cs, rpY l, .p 0 0 0, rpM m0 m1 m2 m3 m4 m5 m6 m7, RP da db cs m0 m1 m2 m3 m4 m5 m6 m7 l (cs.length - j)] : List AV).getD k .u) (av.getD k undef)) → Z pb → J Z i W →
    (∀ q x, lst[q]? = some x → xs[i + q]? = some x) → Calls Try.prog 89 av W (Done l X R pb J Jx W (i + lst.length) p')
def LoopOK (j : Nat) (room : Int) (p : List AV) (lst : List (List AV)) (p' : List AV) : Prop :=
  ∀ (W : World) (Z : Nat → Prop) (i : Nat) (a : Act), j < cs.length → j < 8 → Hd da db cs m0 m1 m2 m3 m4 m5 m6 m7 l X R pb j room (RP da db cs m0 m1 m2 m3 m4 m5 m6 m7 l (cs.length - j)) (.i .i64 (wid db cs j)) p a W → Z pb → J Z i W →
    (∀ q x, lst[q]? = some x → xs[i + q]? = some x) → ∀ (Q : Exit → Act → World → Prop),
    (∀ a' W' Z' room', Hd da db cs m0 m1 m2 m3 m4 m5 m6 m7 l X R pb j room' (RP da db cs m0 m1 m2 m3 m4 m5 m6 m7 l (cs.length - j)) (.i .i64 (wid db cs j)) p' a' W' → Z' pb → J Z' (i + lst.length) W' → GoodW X R W W' → Q .normal a' W') →
    (∀ a' W' Z', a'.defers = [] → a'.tmps.getD 9 undef = .bool false → Jx Z' W' → Q .ret a' W') →
    ∀ (bf : Frame) (k : List Item) (fs : List Frame), bf.roundOf = (FW none).round → (FW none).fn bf.fn → (FW none).room (fs.length + 1 + 0) → ∃ e a' w', Exit.inBlock 0 Q e a' w' ∧ ArrivesIn (Machine.fenced Try.prog (FW none)) Try.prog (lone (bf.atR a (.code qB :: .inLoop qB :: k)) fs W) bf k fs e a' w'
end
variable {da db : Int} {cs : List (List AV)} {m0 m1 m2 m3 m4 m5 m6 m7 : Int} {l : Nat} {X : Nat → Nat → Prop} {Y : Nat → Prop} {R : Nat → Option (Nat × Nat × Nat)} {pb : Nat} {xs : List (List AV)} {J : (Nat → Prop) → Nat → World → Prop} {Jx : (Nat → Prop) → World → Prop}
theorem idx (j : Nat) : 0 + ((j : Nat) : Int).toNat * 1 = j := by simp
theorem node89 (E : Env l X Y R pb xs J Jx) {j : Nat} {room : Int} {p p' : List AV} {lst : List (List AV)} (hj : j < cs.length) (h8 : j < 8)
    (ih : LoopOK da db cs m0 m1 m2 m3 m4 m5 m6 m7 l X R pb xs J Jx j room (setCs p j [.i .i64 0]) lst p') : RecOK da db cs m0 m1 m2 m3 m4 m5 m6 m7 l X R pb xs J Jx j room p lst (setCs p' j [.i .i64 0]) := by
  intro W Z i av h hs hv hZ hJ hx
  obtain ⟨g1, g2, g3⟩ := gj_at h8
  have gl : inb ((j : Nat) : Int) cs.length = true := by simp [inb, hj]
  have hv6 := RP_free (da := da) (db := db) (cs := cs) (m0 := m0) (m1 := m1) (m2 := m2) (m3 := m3) (m4 := m4) (m5 := m5) (m6 := m6) (m7 := m7) (l := l) (cs.length - j)
  refine calls_of_FW (ro := none) (n := 0) (callsIn_of_wp Try.func89 body89 trivial ?_)
  refine pre89 E hv6 h hs hv hZ hJ fun a2 W2 Z2 H2 ht z2 j2 k2 => ?_
  refine wpIn_cond (t := false) (ht.trans (by congr 1; simp; omega)) ?_
  refine wpIn_skip ?_
  show (Code.seq q3 _).wpIn _ _ _ _ _ _
  have E3 := pe3 da db cs m0 m1 m2 m3 m4 m5 m6 m7 j room l (RP da db cs m0 m1 m2 m3 m4 m5 m6 m7 l (cs.length - j)) p
  rw [gl, cond_true] at E3
  refine wpIn_seq (piece_sound S0_ok mixed E.R0 (H2.sr E) (fun id hid => E.R1 id hid) (Nat.le_refl 1) (lokP q3 (by kernel_rfl)) (by simp) E3 (fr8 _ _ _ _ _ _ _ _ _ _ _ _ _ _ _ _ hv6 rfl) (frB p) fun a3 W3 k3 => ?_)
  obtain ⟨Z3, z3, j3, q3'⟩ := stp E z2 j2 k3
  have H3 : Hd da db cs m0 m1 m2 m3 m4 m5 m6 m7 l X R pb j room (RP da db cs m0 m1 m2 m3 m4 m5 m6 m7 l (cs.length - j)) (.i .i64 (wid db cs j)) p a3 W3 := Hd.left H2.at_ rfl rfl rfl H2.df k3
  have E4 := pe4 da db cs m0 m1 m2 m3 m4 m5 m6 m7 j room (wid db cs j) l (RP da db cs m0 m1 m2 m3 m4 m5 m6 m7 l (cs.length - j)) p
  rw [g1, g2, idx] at E4
  refine wpIn_seq (wpIn_seq (piece_sound S0_ok mixed E.R0 (H3.sr E) (fun id hid => E.R1 id hid) (Nat.le_refl 1) (lokP q4 (by kernel_rfl)) (by simp) E4 (fr8 _ _ _ _ _ _ _ _ _ _ _ _ _ _ _ _ hv6 rfl) (frB _) fun a4 W4 k4 => ?_))
  obtain ⟨Z4, z4, j4, q4'⟩ := stp E z3 j3 k4
  have H4 : Hd da db cs m0 m1 m2 m3 m4 m5 m6 m7 l X R pb j room (RP da db cs m0 m1 m2 m3 m4 m5 m6 m7 l (cs.length - j)) (.i .i64 (wid db cs j)) (setCs p j [.i .i64 0]) a4 W4 := Hd.left H3.at_ rfl rfl rfl H3.df k4
  refine wpIn_block (loop_of ?_)
  refine ih W4 Z4 i a4 hj h8 H4 z4 j4 hx _ (fun a5 W5 Z5 room' H5 z5 j5 q5' => ?_) (fun a5 W5 Z5 d5 t5 jx => ?_)
  · show (Code.seq q10 (.seq q11 .ret)).wpIn _ _ _ _ _ _
    have EA := peA da db cs m0 m1 m2 m3 m4 m5 m6 m7 j room' (wid db cs j) l (RP da db cs m0 m1 m2 m3 m4 m5 m6 m7 l (cs.length - j)) p'
    rw [g1, g2, idx] at EA
    refine wpIn_seq (piece_sound S0_ok mixed E.R0 (H5.sr E) (fun id hid => E.R1 id hid) (Nat.le_refl 1) (lokP q10 (by kernel_rfl)) (by simp) EA (fr8 _ _ _ _ _ _ _ _ _ _ _ _ _ _ _ _ hv6 rfl) (frB _) fun a6 W6 k6 => ?_)
    obtain ⟨Z6, z6, j6, q6'⟩ := stp E z5 j5 k6
    have H6 : Hd da db cs m0 m1 m2 m3 m4 m5 m6 m7 l X R pb j room' (RP da db cs m0 m1 m2 m3 m4 m5 m6 m7 l (cs.length - j)) (.i .i64 (wid db cs j)) (setCs p' j [.i .i64 0]) a6 W6 := Hd.left H5.at_ rfl rfl rfl H5.df k6
    refine wpIn_seq (piece_sound S0_ok mixed E.R0 (H6.sr E) (fun id hid => E.R1 id hid) (Nat.le_refl 1) (lokP q11 (by kernel_rfl)) (by simp) (peB da db cs m0 m1 m2 m3 m4 m5 m6 m7 j room' (wid db cs j) l _ _) rfl (frB _) fun a7 W7 k7 => ?_)
    obtain ⟨Z7, z7, j7, q7'⟩ := stp E z6 j6 k7
    exact wpIn_ret (fin89 (k7.df.trans H6.df) (k7.tmp 0 (by decide)).bool_inv (.inl ⟨rfl, Z7, z7, j7, H6.at_.left k7, k2.trans (q3'.trans (q4'.trans (q5'.trans (q6'.trans q7'))))⟩))
  · exact fin89 d5 t5 (.inr ⟨rfl, Z5, jx⟩)
theorem stop89 (E : Env l X Y R pb xs J Jx) {j : Nat} {room : Int} {p : List AV} (hst : (decide (fI p j ≤ fI [AV.i IntKind.i64 m0, AV.i IntKind.i64 m1, AV.i IntKind.i64 m2, AV.i IntKind.i64 m3, AV.i IntKind.i64 m4, AV.i IntKind.i64 m5, AV.i IntKind.i64 m6, AV.i IntKind.i64 m7] j) && decide (room ≥ 0)) = false) :
    LoopOK da db cs m0 m1 m2 m3 m4 m5 m6 m7 l X R pb xs J Jx j room p [] p := by
  intro W Z i a hj h8 H hZ hJ hx Q h1 h2
  obtain ⟨g1, g2, g3⟩ := gj_at h8
  have hv6 := RP_free (da := da) (db := db) (cs := cs) (m0 := m0) (m1 := m1) (m2 := m2) (m3 := m3) (m4 := m4) (m5 := m5) (m6 := m6) (m7 := m7) (l := l) (cs.length - j)
  have E5 := pe5 da db cs m0 m1 m2 m3 m4 m5 m6 m7 j room (wid db cs j) l (RP da db cs m0 m1 m2 m3 m4 m5 m6 m7 l (cs.length - j)) p
  rw [g1, g2, g3, idx] at E5
  have E5' : piece q5 [0, 1, 2, 3, 4, 5, 6, 10, 40] (stH (vH da db cs m0 m1 m2 m3 m4 m5 m6 m7 l j room (RP da db cs m0 m1 m2 m3 m4 m5 m6 m7 l (cs.length - j)) (.i .i64 (wid db cs j))) p) = some (.nrm, vH da db cs m0 m1 m2 m3 m4 m5 m6 m7 l j room (RP da db cs m0 m1 m2 m3 m4 m5 m6 m7 l (cs.length - j)) (.i .i64 (wid db cs j)) ++ [.b false], rw0 p) := by
    rw [E5]
    cases hd : decide (fI p j ≤ fI [AV.i IntKind.i64 m0, AV.i IntKind.i64 m1, AV.i IntKind.i64 m2, AV.i IntKind.i64 m3, AV.i IntKind.i64 m4, AV.i IntKind.i64 m5, AV.i IntKind.i64 m6, AV.i IntKind.i64 m7] j) with
    | false => rfl
    | true =>
      rw [hd, Bool.true_and] at hst
      simp only [cond_true, hst]
      rfl
  refine of_loop ?_
  have hq := qB_eq
  generalize hB : qB = B at hq ⊢
  rw [hq]
  refine wpIn_seq (wpIn_seq (piece_sound S0_ok mixed E.R0 (H.sr E) (fun id hid => E.R1 id hid) (Nat.le_refl 1) (lokP q5 (by kernel_rfl)) (by simp) E5' (freeL_app (fr8 _ _ _ _ _ _ _ _ _ _ _ _ _ _ _ _ hv6 rfl) rfl) (frB _) fun a1 W1 k1 => ?_))
  obtain ⟨Z1, z1, j1, q1'⟩ := stp E hZ hJ k1
  have H1 : Hd da db cs m0 m1 m2 m3 m4 m5 m6 m7 l X R pb j room (RP da db cs m0 m1 m2 m3 m4 m5 m6 m7 l (cs.length - j)) (.i .i64 (wid db cs j)) p a1 W1 := Hd.left H.at_ rfl rfl rfl H.df k1
  refine wpIn_cond (t := false) (k1.tmp 8 (by decide)).bool_inv ?_
  refine wpIn_exit ?_
  show Exit.inBlock 0 Q (.exit 0) a1 W1
  simp only [Exit.inBlock, if_true]
  exact h1 a1 W1 Z1 room H1 z1 j1 q1'
end Go.Proofs.Ytgifjphinkbcaaa

set_option maxRecDepth 100000
set_option linter.unusedVariables false
set_option linter.unusedSimpArgs false
namespace Go.Proofs.Ytgifjphinkbcaaa
open Go Go.Ev Go.RowKit
variable {da db : Int} {cs : List (List AV)} {m0 m1 m2 m3 m4 m5 m6 m7 : Int} {l : Nat} {X : Nat → Nat → Prop} {Y : Nat → Prop} {R : Nat → Option (Nat × Nat × Nat)} {pb : Nat} {xs : List (List AV)} {J : (Nat → Prop) → Nat → World → Prop} {Jx : (Nat → Prop) → World → Prop}
theorem wrap_id {x : Int} (h0 : -9223372036854775808 ≤ x) (h1 : x ≤ 9223372036854775807) : IntKind.i64.wrap x = x := by
  simp only [IntKind.wrap, IntKind.signed, IntKind.bits]
  simp
  omega
theorem app2_0 {x y : Value} {cv : Array Value} : (#[x, y] ++ cv).getD 0 undef = x := by simp [Array.getD_eq_getD_getElem?, Array.getElem?_append]
theorem app2_1 {x y : Value} {cv : Array Value} : (#[x, y] ++ cv).getD 1 undef = y := by simp [Array.getD_eq_getD_getElem?, Array.getElem?_append]
theorem app2_2 {x y : Value} {cv : Array Value} {k : Nat} : (#[x, y] ++ cv).getD (k + 2) undef = cv.getD k undef := by
  have : ¬ (k + 2 < 2) := by omega
  simp [Array.getD_eq_getD_getElem?, Array.getElem?_append, this]
theorem tab89 : ∃ fn, Try.prog.funcs[89]? = some fn ∧ (fn.name == "runtime.NumGoroutine") = false ∧ fn.body.isSome = true := ⟨Try.f89, Try.func89, names 89 _ Try.func89, by rw [body89]; rfl⟩
theorem step89 (E : Env l X Y R pb xs J Jx) {j : Nat} {room : Int} {p p1 p2 : List AV} {l1 l2 : List (List AV)} (hle : fI p j ≤ fI [AV.i IntKind.i64 m0, AV.i IntKind.i64 m1, AV.i IntKind.i64 m2, AV.i IntKind.i64 m3, AV.i IntKind.i64 m4, AV.i IntKind.i64 m5, AV.i IntKind.i64 m6, AV.i IntKind.i64 m7] j) (hr : 0 ≤ room)
    (ih1 : RecOK da db cs m0 m1 m2 m3 m4 m5 m6 m7 l X R pb xs J Jx (j + 1) room p l1 p1)
    (ih2 : LoopOK da db cs m0 m1 m2 m3 m4 m5 m6 m7 l X R pb xs J Jx j (IntKind.i64.wrap (room - wid db cs j)) (setCs p1 j [.i .i64 (IntKind.i64.wrap (fI p1 j + 1))]) l2 p2) :
    LoopOK da db cs m0 m1 m2 m3 m4 m5 m6 m7 l X R pb xs J Jx j room p (l1 ++ l2) p2 := by
  intro W Z i a hj h8 H hZ hJ hx Q h1 h2
  obtain ⟨g1, g2, g3⟩ := gj_at h8
  obtain ⟨d, hd⟩ : ∃ d, cs.length - j = d + 1 := ⟨cs.length - (j + 1), by omega⟩
  have hd' : cs.length - (j + 1) = d := by omega
  have hv6 : ∀ d, free Try.prog 1 (RP da db cs m0 m1 m2 m3 m4 m5 m6 m7 l d) = true := RP_free
  rw [hd] at H h1
  have hRP : RP da db cs m0 m1 m2 m3 m4 m5 m6 m7 l (d + 1) = .rp [.oth] [fn89 da db cs m0 m1 m2 m3 m4 m5 m6 m7 l (RP da db cs m0 m1 m2 m3 m4 m5 m6 m7 l d)] 0 := rfl
  have E5 := pe5 da db cs m0 m1 m2 m3 m4 m5 m6 m7 j room (wid db cs j) l (RP da db cs m0 m1 m2 m3 m4 m5 m6 m7 l (d + 1)) p
  rw [g1, g2, g3, idx, decide_eq_true hle, show decide (room ≥ 0) = true from decide_eq_true hr] at E5
  refine of_loop ?_
  have hq := qB_eq
  generalize hB : Code.loop qB = B0
  generalize hB : qB = B at hq ⊢
  rw [hq]
  refine wpIn_seq (wpIn_seq (piece_sound S0_ok mixed E.R0 (H.sr E) (fun id hid => E.R1 id hid) (Nat.le_refl 1) (lokP q5 (by kernel_rfl)) (by simp) E5 (freeL_app (fr8 _ _ _ _ _ _ _ _ _ _ _ _ _ _ _ _ (hv6 _) rfl) rfl) (frB _) fun a1 W1 k1 => ?_))
  obtain ⟨Z1, z1, j1, q1'⟩ := stp E hZ hJ k1
  have H1 : Hd da db cs m0 m1 m2 m3 m4 m5 m6 m7 l X R pb j room (RP da db cs m0 m1 m2 m3 m4 m5 m6 m7 l (d + 1)) (.i .i64 (wid db cs j)) p a1 W1 := Hd.left H.at_ rfl rfl rfl H.df k1
  refine wpIn_cond (t := true) (k1.tmp 8 (by decide)).bool_inv ?_
  refine wpIn_skip ?_
  show (Code.seq (.block 1 (.seq (.seq q7 (.cond (.tmp 51) (.seq q8 .ret) .skip)) q9)) q6).wpIn _ _ _ _ _ _
  refine wpIn_seq (wpIn_block (wpIn_seq (wpIn_seq ?_)))
  rw [q7_eq]
  refine wpIn_region ?_
  rw [sz7, show List.range 6 = List.range' 0 4 ++ [4, 5] by decide]
  have H1' := H1
  rw [hRP] at H1'
  refine pieceB_sound S0_ok E.R0 (H1'.sr E) (fun id hid => E.R1 id hid) (Nat.le_refl 1) (by rw [sz7]; decide) (by simp) (pe7 da db cs m0 m1 m2 m3 m4 m5 m6 m7 j room (wid db cs j) l (RP da db cs m0 m1 m2 m3 m4 m5 m6 m7 l d) p) (freeL_app (fr8 _ _ _ _ _ _ _ _ _ _ _ _ _ _ _ _ (hv6 (d + 1)) rfl) ?_) (frB p) fun a2 W2 k2 => ?_
  · have : freeL Try.prog 1 [fn89 da db cs m0 m1 m2 m3 m4 m5 m6 m7 l (RP da db cs m0 m1 m2 m3 m4 m5 m6 m7 l d), .i .i64 (IntKind.i64.wrap ((j : Int) + 1)), .i .i64 room] = ((free Try.prog 1 (RP da db cs m0 m1 m2 m3 m4 m5 m6 m7 l d) && true) && true) := by kernel_rfl
    rw [this, hv6 d]; rfl
  obtain ⟨Z2, z2, j2, q2'⟩ := stp E z1 j1 k2
  have H2 : Hd da db cs m0 m1 m2 m3 m4 m5 m6 m7 l X R pb j room (RP da db cs m0 m1 m2 m3 m4 m5 m6 m7 l (d + 1)) (.i .i64 (wid db cs j)) p a2 W2 := Hd.left H1.at_ rfl rfl rfl H1.df k2
  have t46 := k2.tmp 8 (by decide)
  have t48 := k2.tmp 9 (by decide)
  have t49 := k2.tmp 10 (by decide)
  change VR Try.prog (XR X R) R W2 (fn89 da db cs m0 m1 m2 m3 m4 m5 m6 m7 l (RP da db cs m0 m1 m2 m3 m4 m5 m6 m7 l d)) (a2.tmps.getD 46 undef) at t46
  change VR Try.prog (XR X R) R W2 (.i .i64 (IntKind.i64.wrap ((j : Int) + 1))) (a2.tmps.getD 48 undef) at t48
  change VR Try.prog (XR X R) R W2 (.i .i64 room) (a2.tmps.getD 49 undef) at t49
  rw [show IntKind.i64.wrap ((j : Int) + 1) = ((j + 1 : Nat) : Int) from (wrap_id (by omega) (by omega)).trans (by omega)] at t48
  have hf : ∃ cv, a2.eval (.tmp 46) = .func (.func 89) #[] cv ∧ cv.size = 5 ∧ ∀ k, k < 5 → VR Try.prog (XR X R) R W2 (([rpR da db cs, rpY l, .p 0 0 0, rpM m0 m1 m2 m3 m4 m5 m6 m7, RP da db cs m0 m1 m2 m3 m4 m5 m6 m7 l d] : List AV).getD k .u) (cv.getD k undef) := by
    show ∃ cv, a2.tmps.getD 46 undef = _ ∧ _
    generalize a2.tmps.getD 46 undef = q at t46
    unfold fn89 at t46
    cases t46 with
    | fn c1 c2 => exact ⟨_, rfl, c1, c2⟩
  obtain ⟨cv, hy, c1, c2⟩ := hf
  have sz2' : a2.tmps.size = 57 := k2.nt.trans rfl
  simp only [wpOpsIn, o7a_at, o7b_at]
  rw [if_pos (by simp [Region.wanted, o7a_g])]
  obtain ⟨fn, f1, f2, f3⟩ := tab89
  refine enter_op o7a_op rfl hy f1 f2 f3 (ih1 W2 Z2 i _ H2.at_ (by simp [c1]) (fun k hk => ?_) z2 j2 (fun q x hq => hx q x (by
    have hlt := (List.getElem?_eq_some_iff.1 hq).1
    rw [List.getElem?_append_left hlt]; exact hq))) fun e3 W3 he => ?_
  · rw [hd']
    have em : Array.map a2.eval #[Operand.tmp 48, Operand.tmp 49] = #[a2.tmps.getD 48 undef, a2.tmps.getD 49 undef] := by simp [Act.eval]
    dsimp only
    rw [em]
    rcases k with _ | _ | k
    · rw [app2_0]; exact t48
    · rw [show 0 + 1 = 1 from rfl, app2_1]; exact t49
    · rw [show k + 1 + 1 = k + 2 from rfl, app2_2]; exact c2 k (by omega)
  -- the result, and its opposite
  have e50 : ∀ b : Bool, (a2.put o7a.dst (.bool b)).eval (.tmp 50) = .bool b := fun b => by
    rw [o7a_d]
    exact (put_get (by rw [sz2']; decide)).trans (if_pos rfl)
  have e51 : ∀ b : Bool, ((a2.put o7a.dst (.bool b)).put o7b.dst (.bool (!b))).eval (.tmp 51) = .bool (!b) := fun b => by
    rw [o7a_d, o7b_d]
    exact (put_get (by rw [put_size, sz2']; decide)).trans (if_pos rfl)
  have tl : ∀ (b : Bool) (nx : Act → World → Prop) (Q : Exit → Act → World → Prop), nx ((a2.put o7a.dst (.bool b)).put o7b.dst (.bool (!b))) W3 → (if Region.wanted o7b (yielded ops7 (a2.put o7a.dst (.bool b)).tmps) = true then o7b.wpIn (FW none) 0 Try.prog (a2.put o7a.dst (.bool b)) W3 nx Q
      else (∀ f, o7b.about Try.prog W3 (a2.put o7a.dst (.bool b)).eval = some f → (FW none).fn f) ∧ nx ((a2.put o7a.dst (.bool b)).put o7b.dst undef) W3) := by
    intro b nx Q hQ
    rw [if_pos (by simp [Region.wanted, o7b_g])]
    refine wpIn_value (w' := W3) (v := .bool (!b)) (fun c hc => by rw [o7b_op] at hc; cases hc) ?_ hQ
    simp only [execOp, o7b_op, e50 b]
    simp [Op.unary]
  have dfs : ∀ b : Bool, ((a2.put o7a.dst (.bool b)).put o7b.dst (.bool (!b))).defers = [] := fun b => by rw [put_defers, put_defers]; exact H2.df
  rcases he with ⟨rfl, Z3, z3, j3, A3, q3'⟩ | ⟨rfl, Z3, jx⟩
  · refine ⟨_, rfl, tl true _ _ ?_⟩
    show (Code.cond (.tmp 51) (.seq q8 .ret) .skip).wpIn (FW none) 0 Try.prog _ _ W3
    refine wpIn_cond (t := false) (e51 true) ?_
    refine wpIn_skip ?_
    show q9.wpIn (FW none) 0 Try.prog _ _ W3
    have H3 : Hd da db cs m0 m1 m2 m3 m4 m5 m6 m7 l X R pb j room (RP da db cs m0 m1 m2 m3 m4 m5 m6 m7 l (d + 1)) (.i .i64 (wid db cs j)) p1 ((a2.put o7a.dst (.bool true)).put o7b.dst (.bool (!true))) W3 := by
      refine ⟨A3, fun k hk => ?_, ?_, dfs true⟩
      · rw [o7a_d, o7b_d, put_get (by rw [put_size, sz2']; decide), put_get (by rw [sz2']; decide)]
        rw [if_neg (by rcases k with _ | _ | _ | _ | _ | _ | _ | _ | k <;> first | (exfalso; omega) | decide), if_neg (by rcases k with _ | _ | _ | _ | _ | _ | _ | _ | k <;> first | (exfalso; omega) | decide)]
        exact q3'.VR (H2.tmp k hk)
      · rw [o7a_d, o7b_d, put_size, put_size]; exact sz2'
    refine piece_sound S0_ok mixed E.R0 (H3.sr E) (fun id hid => E.R1 id hid) (Nat.le_refl 1) (lokP q9 (by kernel_rfl)) (by simp) (pe9 da db cs m0 m1 m2 m3 m4 m5 m6 m7 j room (wid db cs j) l _ p1) (fr8 _ _ _ _ _ _ _ _ _ _ _ _ _ _ _ _ (hv6 _) rfl) (frB _) fun a4 W4 k4 => ?_
    obtain ⟨Z4, z4, j4, q4'⟩ := stp E z3 j3 k4
    have H4 : Hd da db cs m0 m1 m2 m3 m4 m5 m6 m7 l X R pb j (IntKind.i64.wrap (room - wid db cs j)) (RP da db cs m0 m1 m2 m3 m4 m5 m6 m7 l (d + 1)) (.i .i64 (wid db cs j)) p1 a4 W4 := Hd.left H3.at_ rfl rfl rfl H3.df k4
    show q6.wpIn (FW none) 0 Try.prog _ a4 W4
    have E6 := pe6 da db cs m0 m1 m2 m3 m4 m5 m6 m7 j (IntKind.i64.wrap (room - wid db cs j)) (wid db cs j) l (RP da db cs m0 m1 m2 m3 m4 m5 m6 m7 l (d + 1)) p1
    rw [g1, g2, idx] at E6
    refine piece_sound S0_ok mixed E.R0 (H4.sr E) (fun id hid => E.R1 id hid) (Nat.le_refl 1) (lokP q6 (by kernel_rfl)) (by simp) E6 (fr8 _ _ _ _ _ _ _ _ _ _ _ _ _ _ _ _ (hv6 _) rfl) (frB _) fun a5 W5 k5 => ?_
    obtain ⟨Z5, z5, j5, q5'⟩ := stp E z4 j4 k5
    have H5 : Hd da db cs m0 m1 m2 m3 m4 m5 m6 m7 l X R pb j (IntKind.i64.wrap (room - wid db cs j)) (RP da db cs m0 m1 m2 m3 m4 m5 m6 m7 l (d + 1)) (.i .i64 (wid db cs j)) (setCs p1 j [.i .i64 (IntKind.i64.wrap (fI p1 j + 1))]) a5 W5 := Hd.left H4.at_ rfl rfl rfl H4.df k5
    subst hB
    have hgood := q1'.trans (q2'.trans (q3'.trans (q4'.trans q5')))
    refine ih2 W5 Z5 (i + l1.length) a5 hj h8 (by rw [hd]; exact H5) z5 j5 (fun q x hq => ?_) Q (fun a6 W6 Z6 room' H6 z6 j6 q6' => ?_) h2
    · have := hx (l1.length + q) x (by rw [List.getElem?_append_right (by omega), Nat.add_sub_cancel_left]; exact hq)
      rw [Nat.add_assoc]; exact this
    · rw [hd] at H6
      refine h1 a6 W6 Z6 room' H6 z6 ?_ (hgood.trans q6')
      rw [List.length_append, ← Nat.add_assoc]; exact j6
  · refine ⟨_, rfl, tl false _ _ ?_⟩
    show (Code.cond (.tmp 51) (.seq q8 .ret) .skip).wpIn (FW none) 0 Try.prog _ _ W3
    refine wpIn_cond (t := true) (e51 false) ?_
    simp only [if_true]
    rw [q8_eq]
    refine wpIn_seq (wpIn_region ?_)
    show wpOpsIn (FW none) 0 Try.prog #[o8] _ [0] _ W3
    simp only [wpOpsIn, List.getElem?_toArray, List.getElem?_cons_zero]
    rw [if_pos (by simp [Region.wanted, o8_g])]
    refine wpIn_value (w' := W3) (v := .bool false) (fun c hc => by rw [o8_op] at hc; cases hc) (by simp only [execOp, o8_op, Sem.run_pure]; rfl) ?_
    refine wpIn_ret ?_
    show Q .ret _ W3
    refine h2 _ W3 Z3 ?_ ?_ jx
    · rw [put_defers]; exact dfs false
    · rw [o8_d]
      exact (put_get (by rw [o7b_d, o7a_d, put_size, put_size, sz2']; decide)).trans (if_pos rfl)
def Goal89 (da db : Int) (cs : List (List AV)) (m0 m1 m2 m3 m4 m5 m6 m7 : Int) (l : Nat) (X : Nat → Nat → Prop) (R : Nat → Option (Nat × Nat × Nat)) (pb : Nat) (xs : List (List AV)) (J : (Nat → Prop) → Nat → World → Prop) (Jx : (Nat → Prop) → World → Prop) : Bool → Nat → Int → List AV → List (List AV) → List AV → Prop
  | false => RecOK da db cs m0 m1 m2 m3 m4 m5 m6 m7 l X R pb xs J Jx
  | true => LoopOK da db cs m0 m1 m2 m3 m4 m5 m6 m7 l X R pb xs J Jx
theorem rec89 (E : Env l X Y R pb xs J Jx) {b : Bool} {j : Nat} {room : Int} {p p' : List AV} {lst : List (List AV)} (h : PT db cs [AV.i IntKind.i64 m0, AV.i IntKind.i64 m1, AV.i IntKind.i64 m2, AV.i IntKind.i64 m3, AV.i IntKind.i64 m4, AV.i IntKind.i64 m5, AV.i IntKind.i64 m6, AV.i IntKind.i64 m7] b j room p lst p') :
    Goal89 da db cs m0 m1 m2 m3 m4 m5 m6 m7 l X R pb xs J Jx b j room p lst p' := by
  induction h with
  | leaf => 
    intro W Z i av h hs hv hZ hJ hx
    exact leaf89 E (RP_free _) h hs hv hZ hJ (by simpa using hx 0 _ rfl)
  | node hj h8 _ ih => exact node89 E hj h8 ih
  | stop h => exact stop89 E h
  | step h1 h2 _ _ ih1 ih2 => exact step89 E h1 h2 ih1 ih2
end Go.Proofs.Ytgifjphinkbcaaa

set_option maxRecDepth 100000
set_option linter.unusedVariables false
set_option linter.unusedSimpArgs false
namespace Go.Proofs.Ytgifjphinkbcaaa
open Go Go.Ev Go.RowKit
variable {da db : Int} {cs : List (List AV)} {m0 m1 m2 m3 m4 m5 m6 m7 : Int} {l : Nat} {X : Nat → Nat → Prop} {Y : Nat → Prop} {R : Nat → Option (Nat × Nat × Nat)} {pb : Nat} {xs : List (List AV)} {J : (Nat → Prop) → Nat → World → Prop} {Jx : (Nat → Prop) → World → Prop}
/-! ### Values in range -/
def rng (X : List AV) : Prop := ∀ k, IntKind.i64.min ≤ fI X k ∧ fI X k ≤ IntKind.i64.max
theorem wrap_rng (x : Int) : IntKind.i64.min ≤ IntKind.i64.wrap x ∧ IntKind.i64.wrap x ≤ IntKind.i64.max := by
  simp only [IntKind.wrap, IntKind.signed, IntKind.bits, IntKind.min, IntKind.max]
  simp
  omega
theorem rng_set {X : List AV} (h : rng X) (j : Nat) {v : Int} (hv : IntKind.i64.min ≤ v ∧ v ≤ IntKind.i64.max) : rng (setCs X j [.i .i64 v]) := by
  intro k
  have e : fI (setCs X j [.i .i64 v]) k = v ∨ fI (setCs X j [.i .i64 v]) k = fI X k ∨ fI (setCs X j [.i .i64 v]) k = 0 := by
    show toI ((X.set j (.i .i64 v)).getD k .u) = v ∨ toI ((X.set j (.i .i64 v)).getD k .u) = toI (X.getD k .u) ∨ toI ((X.set j (.i .i64 v)).getD k .u) = 0
    simp only [List.getD_eq_getElem?_getD, List.getElem?_set]
    split
    · split
      · exact .inl rfl
      · exact .inr (.inr rfl)
    · exact .inr (.inl rfl)
  rcases e with e | e | e <;> rw [e]
  · exact hv
  · exact h k
  · decide
theorem plain_of_rng {X : List AV} (k : rng X) : plainL (enc8 X) = true := by
  simp only [enc8, ag8, plain, plainL, Bool.and_eq_true, decide_eq_true_eq, and_true]
  exact ⟨k 0, k 1, k 2, k 3, k 4, k 5, k 6, k 7⟩
theorem PT.plain {ms : List AV} {b : Bool} {j : Nat} {room : Int} {p p' : List AV} {lst : List (List AV)} (h : PT db cs ms b j room p lst p') : rng p → (∀ x, x ∈ lst → plainL x = true) ∧ rng p' := by
  induction h with
  | leaf =>
    intro hr
    refine ⟨fun x hx => ?_, hr⟩
    simp only [List.mem_singleton] at hx
    subst hx
    exact plain_of_rng hr
  | node _ _ _ ih =>
    intro hr
    obtain ⟨i1, i2⟩ := ih (rng_set hr _ (by decide))
    exact ⟨i1, rng_set i2 _ (by decide)⟩
  | stop _ =>
    intro hr
    refine ⟨fun x hx => ?_, hr⟩
    cases hx
  | step _ _ _ _ ih1 ih2 =>
    intro hr
    obtain ⟨i1, i2⟩ := ih1 hr
    obtain ⟨i3, i4⟩ := ih2 (rng_set i2 _ (wrap_rng _))
    refine ⟨fun x hx => ?_, i4⟩
    rcases List.mem_append.1 hx with hx | hx
    · exact i1 x hx
    · exact i3 x hx
/-! ### The iterator -/
noncomputable def bd88 : Code := match Try.f88.body with | some c => c | _ => .skip
noncomputable def at88 (p : List Bool) : Code := match locate bd88 p with | some c => c | _ => .skip
noncomputable def y0 : Code := at88 [false]
noncomputable def y1 : Code := at88 [true, false]
noncomputable def y2 : Code := at88 [true, true, false]
noncomputable def y3 : Code := at88 [true, true, true, false]
noncomputable def y4 : Code := at88 [true, true, true, true]
noncomputable def opsY : Array Oper := match y4 with | .region _ o _ => o | _ => #[]
theorem bd88_eq : bd88 = .seq y0 (.seq y1 (.seq y2 (.seq y3 y4))) := by kernel_rfl
theorem y4_eq : y4 = .region 4 opsY false := by kernel_rfl
theorem szY : opsY.size = 7 := by kernel_rfl
noncomputable def oY : Oper := (opsY[6]?).getD default
theorem oY_at : opsY[6]? = some oY := by kernel_rfl
theorem oY_op : oY.op = .call { callee := .value (.tmp 7), args := #[.const (.int .i64 0), .tmp 12], argTypes := #[3, 3] } := by kernel_rfl
theorem oY_g : oY.guard = none := by kernel_rfl
theorem body88 : Try.f88.body = some bd88 := by kernel_rfl
theorem res88 : Try.f88.results = #[] := by kernel_rfl
noncomputable def ro88 (t : Nat) : Bool := cond (Nat.beq t 4) false (ro 88 t)
noncomputable def fnY (da db : Int) (cs : List (List AV)) (m0 m1 m2 m3 m4 m5 m6 m7 : Int) (l : Nat) : AV := .fn 89 [rpR da db cs, rpY l, .p 1 0 0, rpM m0 m1 m2 m3 m4 m5 m6 m7, .p 2 0 0]
def zero8 : List AV := [.i .i64 0, .i .i64 0, .i .i64 0, .i .i64 0, .i .i64 0, .i .i64 0, .i .i64 0, .i .i64 0]
/-- All up to the call. -/
noncomputable def upY (st : St) : Option (AV × AV × Blk × Blk) := evC Try.prog S0 ro88 (fun _ _ => none) y0 [] st fun e s => match e with
  | .nrm => evC Try.prog S0 ro88 (fun _ _ => none) y1 [] s fun e s => match e with
    | .nrm => evC Try.prog S0 ro88 (fun _ _ => none) y2 [] s fun e s => match e with
      | .nrm => evC Try.prog S0 ro88 (fun _ _ => none) y3 [] s fun e s => match e with
        | .nrm => evOpsB Try.prog S0 ro88 opsY s.nx (opsY.toList.take 6) 0 s fun s => some (gt s.t 7, gt s.t 12, gm s.m 1, gm s.m 2)
        | _ => none
      | _ => none
    | _ => none
  | _ => none
theorem upY_eq (da db : Int) (cs : List (List AV)) (m0 m1 m2 m3 m4 m5 m6 m7 : Int) (l : Nat) : upY (initSt 14 [.yl l, rpR da db cs, rpM m0 m1 m2 m3 m4 m5 m6 m7] []) = some (fnY da db cs m0 m1 m2 m3 m4 m5 m6 m7 l, .i .i64 (IntKind.i64.wrap (da + db)), rw0 zero8, .row 125 [[fnY da db cs m0 m1 m2 m3 m4 m5 m6 m7 l]]) := by kernel_rfl
theorem rp_chain {W : World} {fb : Nat} {cv : Array Value} (hc : W.cell? ⟨fb, 0, none⟩ = some (.func (.func 89) #[] cv)) (hs : cv.size = 5) (hX : ∀ o, ¬ XR X R fb o) (h4 : cv.getD 4 undef = .pointer (some ⟨fb, 0, none⟩))
    (h : ∀ k, k < 4 → VR Try.prog (XR X R) R W (([rpR da db cs, rpY l, .p 0 0 0, rpM m0 m1 m2 m3 m4 m5 m6 m7] : List AV).getD k .u) (cv.getD k undef)) :
    ∀ d, VR Try.prog (XR X R) R W (RP da db cs m0 m1 m2 m3 m4 m5 m6 m7 l d) (.pointer (some ⟨fb, 0, none⟩))
  | 0 => .u
  | d + 1 => by
    refine .rp (b := fb) (o := 0) (j := 0) (f := fun _ => .func (.func 89) #[] cv) (fun k hk => hX _) (by simp) ⟨rfl, fun j hj => ?_⟩ (fun k hk => ?_) (fun k hk => ?_)
    · have : j = 0 := by simp at hj; omega
      subst this
      exact .oth
    · have : k = 0 := by simp at hk; omega
      subst this
      exact hc
    · have : k = 0 := by simp at hk; omega
      subst this
      refine .fn hs fun k hk => ?_
      rcases Nat.lt_or_ge k 4 with g | g
      · have := h k g
        rcases k with _ | _ | _ | _ | k
        · exact this
        · exact this
        · exact this
        · exact this
        · omega
      · have : k = 4 := by simp at hk; omega
        subst this
        rw [h4]
        exact rp_chain hc hs hX h4 h d
end Go.Proofs.Ytgifjphinkbcaaa

set_option maxRecDepth 100000
set_option linter.unusedVariables false
set_option linter.unusedSimpArgs false
namespace Go.Proofs.Ytgifjphinkbcaaa
open Go Go.Ev Go.RowKit
variable {da db : Int} {cs : List (List AV)} {m0 m1 m2 m3 m4 m5 m6 m7 : Int}
theorem lokY (c : Code) (h : (match c with | .region _ _ _ => true | _ => false) = true) : LOK Try.prog S0 ro88 (fun _ _ => none) 0 true c [] := by
  split at h
  · trivial
  · cases h
theorem cells104 : Try.prog.cellsOf 104 = 8 := by kernel_rfl
theorem cells125 : Try.prog.cellsOf 125 = 1 := by kernel_rfl
/-- **The iterator over the patterns.** -/
theorem pat_con {lst : List (List AV)} {p' : List AV} (h : PT db cs [AV.i IntKind.i64 m0, AV.i IntKind.i64 m1, AV.i IntKind.i64 m2, AV.i IntKind.i64 m3, AV.i IntKind.i64 m4, AV.i IntKind.i64 m5, AV.i IntKind.i64 m6, AV.i IntKind.i64 m7] false 0 (IntKind.i64.wrap (da + db)) zero8 lst p') :
    SeqCon Try.prog 88 [rpR da db cs, rpM m0 m1 m2 m3 m4 m5 m6 m7] lst := by
  refine ⟨⟨Try.f88, Try.func88, names 88 _ Try.func88, by rw [body88]; rfl⟩, (h.plain fun k => ?_).1, ?_⟩
  · rcases k with _ | _ | _ | _ | _ | _ | _ | _ | k <;> exact (show IntKind.i64.min ≤ (0 : Int) ∧ (0 : Int) ≤ IntKind.i64.max from ⟨by decide, by decide⟩)
  intro X Y n w lb hX hYX hlb hcaps l J Jx hJ hJx hJ0 hyield
  refine callsIn_FW (calls_of_FW (ro := none) (n := 0) (callsIn_of_wp Try.func88 body88 trivial ?_))
  have h0 : SR Try.prog ⟨w, rowsOf none2, fun id => id < 0, w.heap.size, Nat.le_refl _⟩ (XR X none2) (XR X none2) none2 (initSt 14 [.yl l, rpR da db cs, rpM m0 m1 m2 m3 m4 m5 m6 m7] []) { tmps := (#[Value.func (.yield l) #[] #[]] ++ lb) ++ Array.replicate (14 - (#[Value.func (.yield l) #[] #[]] ++ lb).size) undef, defers := [] } w :=
    init_SR (rows := []) hX (fun _ _ => rfl) (fun _ _ _ e => by cases e) (fun _ _ _ _ _ e => by cases e) rfl (fun id hid => by simp at hid) (by simp at hlb; simp [hlb]) (show 3 ≤ 14 by decide) (fun k hk => by
      cases k with
      | zero =>
        have e : (#[Value.func (.yield l) #[] #[]] ++ lb).getD 0 undef = .func (.yield l) #[] #[] := by simp [Array.getD_eq_getD_getElem?, Array.getElem?_append]
        rw [e]
        exact .yl
      | succ k =>
        have := (hcaps k (by simp at hk ⊢; omega)).to_xr_none
        simpa [Array.getD_eq_getD_getElem?, Array.getElem?_append] using this)
  rw [bd88_eq]
  have hW := upY_eq da db cs m0 m1 m2 m3 m4 m5 m6 m7 l
  unfold upY at hW
  refine wpIn_seq (evC_sound S0_ok mixed y0 [] 0 true none 0 (lokY y0 (by kernel_rfl)) (fun h => by cases h) h0 (fun _ _ => rfl) (Nat.zero_le _) hW fun D1 R1 e1 s1 a1 w1 hS1 hF1 _ hd1 _ ht1 hK1 => ?_)
  cases e1 with
  | ext k => cases hK1
  | ret => cases hK1
  | nrm =>
  refine wpIn_seq (evC_sound S0_ok mixed y1 [] 0 true none 0 (lokY y1 (by kernel_rfl)) (fun h => by cases h) hS1 hF1 (Nat.zero_le _) hK1 fun D2 R2 e2 s2 a2 w2 hS2 hF2 _ hd2 _ ht2 hK2 => ?_)
  cases e2 with
  | ext k => cases hK2
  | ret => cases hK2
  | nrm =>
  refine wpIn_seq (evC_sound S0_ok mixed y2 [] 0 true none 0 (lokY y2 (by kernel_rfl)) (fun h => by cases h) hS2 hF2 (Nat.zero_le _) hK2 fun D3 R3 e3 s3 a3 w3 hS3 hF3 _ hd3 _ ht3 hK3 => ?_)
  cases e3 with
  | ext k => cases hK3
  | ret => cases hK3
  | nrm =>
  refine wpIn_seq (evC_sound S0_ok mixed y3 [] 0 true none 0 (lokY y3 (by kernel_rfl)) (fun h => by cases h) hS3 hF3 (Nat.zero_le _) hK3 fun D4 R4 e4 s4 a4 w4 hS4 hF4 _ hd4 _ ht4 hK4 => ?_)
  cases e4 with
  | ext k => cases hK4
  | ret => cases hK4
  | nrm =>
  show y4.wpIn (FW none) 0 Try.prog _ a4 w4
  rw [y4_eq]
  refine wpIn_region ?_
  rw [szY, show List.range 7 = List.range' 0 6 ++ [6] by decide]
  have hl : (opsY.toList.take 6).length = 6 := by simp [szY]
  obtain ⟨rest, hrest⟩ : ∃ rest : List Nat, rest = [6] := ⟨_, rfl⟩
  rw [← hrest, ← hl]
  refine evOpsB_cut S0_ok (opsY.toList.take 6) 0 (fun i hi => ?_) hS4 (by simpa using hF4) hK4 fun D R' s a W hS hF hRR hd _ hnt hK => ?_
  · rw [hl] at hi
    simp [List.getElem?_take, hi]
  simp only [Option.some.injEq, Prod.mk.injEq] at hK
  obtain ⟨k7, k12, kr1, kr2⟩ := hK
  have dfa : a.defers = [] := hd.trans ((hd4 rfl).trans ((hd3 rfl).trans ((hd2 rfl).trans (hd1 rfl))))
  -- where the rows lie
  have r1 := hS.mem 1
  rw [kr1] at r1
  have r2 := hS.mem 2
  rw [kr2] at r2
  obtain ⟨pb, c1, ty1, g1, hb1, _⟩ := r1 (by simp)
  obtain ⟨fb, c2, ty2, g2, hb2, _, _, _, _, hv2⟩ := r2 (by simp)
  rw [cells104] at g1
  rw [cells125] at g2
  have o1 := hS.own 1 pb _ g1 (by simp)
  have o2 := hS.own 2 fb _ g2 (by simp)
  have p1 : w.heap.size ≤ pb := by
    rcases o1.1 with g | ⟨_, g⟩
    · exact g
    · simp only at g; omega
  have p2 : w.heap.size ≤ fb := by
    rcases o2.1 with g | ⟨_, g⟩
    · exact g
    · simp only at g; omega
  have hne : fb ≠ pb := fun e => by
    subst e
    have := hS.inj 1 2 fb _ _ g1 g2 (by simp) (by simp) (by rw [kr1]; rfl) (by rw [kr2]; rfl)
    omega
  obtain ⟨R3', hR3⟩ : ∃ R3' : Nat → Option (Nat × Nat × Nat), R3' = fun id => if id = 0 then some (pb, 8, 0) else none := ⟨_, rfl⟩
  have E : Env l X Y R3' pb lst J Jx := ⟨by rw [hR3]; rfl, fun id hid => by rw [hR3]; exact if_neg (by omega), hYX, fun o hx => by have := hX _ _ hx; omega, hJ, hyield⟩
  have hsub : ∀ b o, XR X R3' b o → D b o := by
    rintro b o (hx | ⟨id, s, e⟩)
    · exact hS.X b o (.inl hx)
    · rw [hR3] at e
      simp only at e
      split at e
      · cases e
        exact hS.dom 1 pb _ o g1 (by rw [kr1]; trivial)
      · cases e
  have toD : ∀ {x : AV} {v : Value}, VR Try.prog D R3' W x v → VR Try.prog (XR X R3') R3' W x v := fun hv => hv.mono' (fun _ _ e => e) fun b o u hd hc => ⟨fun hx => hd (hsub b o hx), hc⟩
  have toX : ∀ {x : AV} {v : Value}, VR Try.prog D R' W x v → free Try.prog 0 x = true → VR Try.prog (XR X R3') R3' W x v := fun hv hf => toD (hv.free_any (nb := 0) (fun id y h => by omega) hf)
  have A : At l X R3' pb zero8 W := by
    refine ⟨fun b o hx => Nat.lt_of_lt_of_le (hX b o hx) hS.old.size, o1.2, ?_⟩
    exact (RowOK.free (nb := 0) (R' := R3') (id := 1) (id' := 0) (fun id y h => by omega) (fun y e => by rw [g1] at e; cases e; exact E.R0) r1 (by kernel_rfl)).mono rfl (fun _ _ _ _ => rfl) fun _ _ => toD
  -- the function's value
  have cap : ∀ v, VR Try.prog D R' W (fnY da db cs m0 m1 m2 m3 m4 m5 m6 m7 l) v → ∃ cv, v = .func (.func 89) #[] cv ∧ cv.size = 5 ∧ cv.getD 4 undef = .pointer (some ⟨fb, 0, none⟩) ∧
      ∀ k, k < 4 → VR Try.prog (XR X R3') R3' W (([rpR da db cs, rpY l, .p 0 0 0, rpM m0 m1 m2 m3 m4 m5 m6 m7] : List AV).getD k .u) (cv.getD k undef) := by
    intro v hv
    unfold fnY at hv
    cases hv with
    | @fn _ _ cv q1 q2 =>
      have t0 := q2 0 (by simp)
      have t1 := q2 1 (by simp)
      have t2 := q2 2 (by simp)
      have t3 := q2 3 (by simp)
      have t4 := q2 4 (by simp)
      simp only [List.getD_cons_zero, List.getD_cons_succ] at t0 t1 t2 t3 t4
      refine ⟨cv, rfl, q1, ?_, fun k hk => ?_⟩
      · generalize cv.getD 4 undef = u at t4
        cases t4 with
        | @p _ _ _ b sz hR =>
          rw [g2] at hR
          cases hR
          rfl
      · rcases k with _ | _ | _ | _ | k
        · exact toX t0 (by kernel_rfl)
        · exact toX t1 (by kernel_rfl)
        · show VR _ _ _ _ (.p 0 0 0) (cv.getD 2 undef)
          generalize cv.getD 2 undef = u at t2
          cases t2 with
          | @p _ _ _ b sz hR =>
            rw [g1] at hR
            cases hR
            exact .p E.R0
        · exact toX t3 (by kernel_rfl)
        · omega
  -- the box that holds it
  obtain ⟨vb, hvb, hvv⟩ := hv2 0 0 (by simp) (by rw [cells125]; decide)
  obtain ⟨cvb, rfl, b1, b2, b3⟩ := cap vb hvv
  have hcell : W.cell? ⟨fb, 0, none⟩ = some (.func (.func 89) #[] cvb) := by
    simp only [cells125, Nat.mul_one, Nat.add_zero] at hvb
    simp only [World.cell?, hb2]
    simpa using hvb
  have chain := rp_chain (da := da) (db := db) (cs := cs) (m0 := m0) (m1 := m1) (m2 := m2) (m3 := m3) (m4 := m4) (m5 := m5) (m6 := m6) (m7 := m7) (l := l) hcell b1 (fun o hx => by
    rcases hx with hx | ⟨id, s, e⟩
    · have := hX _ _ hx; omega
    · rw [hR3] at e
      simp only at e
      split at e
      · cases e; exact hne rfl
      · cases e) b2 b3
  have t7 := hS.tmp 7
  rw [k7] at t7
  obtain ⟨cv, hy, d1, d2, d3⟩ := cap _ t7
  have t12 := hS.tmp 12
  rw [k12] at t12
  rw [hrest]
  simp only [wpOpsIn, oY_at]
  rw [if_pos (by simp [Region.wanted, oY_g])]
  obtain ⟨fn, f1, f2, f3⟩ := tab89
  have hrec := rec89 (da := da) E h
  have hJ1 := hJ _ _ _ _ hJ0 (show BelowZ (fun _ => False) w W from ⟨hS.old.os, hS.old.tape, hS.old.output, hS.old.size, fun k hk _ => hS.old.block k hk (by rintro ⟨_, _, e⟩; cases e)⟩)
  refine enter_op oY_op rfl hy f1 f2 f3 (hrec W _ 0 _ A (by simp [d1]) (fun k hk => ?_) (.inr ⟨p1, o1.2⟩) hJ1 (fun q x hq => by simpa using hq)) fun e5 W5 he => ?_
  · have em : Array.map a.eval #[Operand.const (.int .i64 0), Operand.tmp 12] = #[.int .i64 0, a.tmps.getD 12 undef] := by simp [Act.eval]
    dsimp only
    rw [em]
    rcases k with _ | _ | k
    · rw [app2_0]; exact .i (by decide) (by decide)
    · rw [show 0 + 1 = 1 from rfl, app2_1]; exact toX t12 (by kernel_rfl)
    · rw [show k + 1 + 1 = k + 2 from rfl, app2_2]
      rcases Nat.lt_or_ge k 4 with g | g
      · have := d3 k g
        rcases k with _ | _ | _ | _ | k
        · exact this
        · exact this
        · exact this
        · exact this
        · omega
      · have : k = 4 := by omega
        subst this
        rw [d2]
        exact chain _
  · have fin : ∀ v : Value, (∃ v', Ending.returned v = .returned v') ∧ ((∃ Z, J Z lst.length W5) ∨ ∃ Z, Jx Z W5) → ∃ v', Ending.returned v = .returned v' ∧ wpOpsIn (FW none) 0 Try.prog opsY (bodyPost Try.prog Try.f88 fun e W' => (∃ v, e = .returned v) ∧ ((∃ Z, J Z lst.length W') ∨ ∃ Z, Jx Z W')) [] (a.put oY.dst v') W5 := by
      intro v hv
      refine ⟨v, rfl, (put_defers _ _ _).trans dfa, ?_⟩
      have hr : ∃ u, (results Try.f88 (a.put oY.dst v).tmps).run Try.prog W5 = .ok u W5 := by simp [results, res88]
      obtain ⟨u, hu⟩ := hr
      exact ⟨u, hu, ⟨u, rfl⟩, hv.2⟩
    rcases he with ⟨rfl, Z', _, hj, _⟩ | ⟨rfl, Z', hj⟩
    · exact fin _ ⟨⟨_, rfl⟩, .inl ⟨Z', by simpa using hj⟩⟩
    · exact fin _ ⟨⟨_, rfl⟩, .inr ⟨Z', hj⟩⟩
end Go.Proofs.Ytgifjphinkbcaaa

set_option maxRecDepth 100000
set_option linter.unusedVariables false
namespace Go.Proofs.Ytgifjphinkbcaaa
open Go Go.Ev
/-- Are there patterns? -/
def Pats (da db : Int) (cs : List (List AV)) (ms : List AV) (Xs : List (List AV)) : Prop := ∃ p', PT db cs ms false 0 (IntKind.i64.wrap (da + db)) zero8 (Xs.map enc8) p'
open Classical in
noncomputable def okP (da db : Int) (cs : List (List AV)) (m0 m1 m2 m3 m4 m5 m6 m7 : Int) : Bool := decide (∃ Xs, Pats da db cs [.i .i64 m0, .i .i64 m1, .i .i64 m2, .i .i64 m3, .i .i64 m4, .i .i64 m5, .i .i64 m6, .i .i64 m7] Xs)
open Classical in
noncomputable def patX (da db : Int) (cs : List (List AV)) (m0 m1 m2 m3 m4 m5 m6 m7 : Int) : List (List AV) := if h : ∃ Xs, Pats da db cs [.i .i64 m0, .i .i64 m1, .i .i64 m2, .i .i64 m3, .i .i64 m4, .i .i64 m5, .i .i64 m6, .i .i64 m7] Xs then h.choose else []
theorem patX_ok {da db : Int} {cs : List (List AV)} {m0 m1 m2 m3 m4 m5 m6 m7 : Int} (h : okP da db cs m0 m1 m2 m3 m4 m5 m6 m7 = true) : Pats da db cs [.i .i64 m0, .i .i64 m1, .i .i64 m2, .i .i64 m3, .i .i64 m4, .i .i64 m5, .i .i64 m6, .i .i64 m7] (patX da db cs m0 m1 m2 m3 m4 m5 m6 m7) := by
  unfold okP at h
  simp only [decide_eq_true_eq] at h
  unfold patX
  rw [dif_pos h]
  exact h.choose_spec
theorem patX_con {da db : Int} {cs : List (List AV)} {m0 m1 m2 m3 m4 m5 m6 m7 : Int} (h : okP da db cs m0 m1 m2 m3 m4 m5 m6 m7 = true) :
    SeqCon Try.prog 88 [.rp [.int .i64, .int .i64, .sl 64] [.i .i64 da, .i .i64 db, .rs 64 cs] 0, .rp [.int .i64, .int .i64, .int .i64, .int .i64, .int .i64, .int .i64, .int .i64, .int .i64] [.i .i64 m0, .i .i64 m1, .i .i64 m2, .i .i64 m3, .i .i64 m4, .i .i64 m5, .i .i64 m6, .i .i64 m7] 0] ((patX da db cs m0 m1 m2 m3 m4 m5 m6 m7).map enc8) := by
  obtain ⟨p', h⟩ := patX_ok h
  exact pat_con h
theorem enc8_len {Xs : List (List AV)} {x : List AV} (h : x ∈ Xs.map enc8) : x.length = 1 := by
  obtain ⟨y, _, rfl⟩ := List.mem_map.1 h
  rfl
end Go.Proofs.Ytgifjphinkbcaaa
