/- Plain words for the laws of parts and of locks. -/
import Derived.Test.YthccppldpfddjaaDoorM2
namespace Go.Proofs.YthccppldpfddjaaDoor
theorem runC_one (S : St) (o : OpA) : runC S [o] = codeS S o := by
  unfold runC
  split
  · rename_i h; rw [h]; rfl
  · rfl
theorem applyC_one (S : St) (o : OpA) : applyC S [o] = codeS S o := by
  unfold applyC
  rw [if_neg (by simp), runC_one]
theorem applyS_one (S : St) (o : OpA) : applyS S [o] = stepS S o := by
  unfold applyS stepS
  rw [applyC_one]
  unfold runS
  split
  · simp [runS]
  · rfl
/-- One operation after the other: the rights, and the first error. -/
def partF : St → Int → List OpA → St × Int
  | S, c, [] => (S, c)
  | S, c, o :: l => partF (stepS S o) (if codeS S o ≠ 0 ∧ c = 0 then codeS S o else c) l
theorem partF_snoc (S : St) (c : Int) (l : List OpA) (o : OpA) : partF S c (l ++ [o]) = (stepS (partF S c l).1 o, if codeS (partF S c l).1 o ≠ 0 ∧ (partF S c l).2 = 0 then codeS (partF S c l).1 o else (partF S c l).2) := by
  induction l generalizing S c with
  | nil => rfl
  | cons p l ih => rw [List.cons_append, partF, ih]; rfl
theorem partF_bad (S : St) {c : Int} (hc : c ≠ 0) (l : List OpA) : (partF S c l).2 = c := by
  induction l generalizing S with
  | nil => rfl
  | cons o l ih => rw [partF, if_neg (by simp [hc]), ih]
theorem partF_run (S : St) (l : List OpA) : (partF S 0 l).2 = runC S l ∧ (runC S l = 0 → (partF S 0 l).1 = runS S l) := by
  induction l generalizing S with
  | nil => exact ⟨rfl, fun _ => rfl⟩
  | cons o l ih =>
    by_cases h : codeS S o = 0
    · have e1 : stepS S o = nextS S o := by unfold stepS; rw [if_pos h]
      have e2 : runC S (o :: l) = runC (nextS S o) l := by rw [runC, if_pos h]
      have e3 : runS S (o :: l) = runS (nextS S o) l := by rw [runS, if_pos h]
      rw [partF, if_neg (by simp [h]), e1, e2, e3]
      exact ih _
    · have e2 : runC S (o :: l) = codeS S o := by rw [runC, if_neg h]
      rw [partF, if_pos ⟨h, rfl⟩, e2]
      exact ⟨partF_bad _ h _, fun h0 => absurd h0 h⟩
theorem partF_ok {S : St} (c : Int) (l : List OpA) (h : StOk S) : StOk (partF S c l).1 := by
  induction l generalizing S c with
  | nil => exact h
  | cons o l ih =>
    rw [partF]
    refine ih _ ?_
    unfold stepS
    split
    · exact nextS_ok h ‹_›
    · exact h
/-- P16.4: the list at once, and its elements one after the other. -/
theorem parts_same (l : List OpA) (hl : l.length ≤ 200) : applyC St0 l = (partF St0 0 l).2 ∧ (applyC St0 l = 0 → applyS St0 l = (partF St0 0 l).1) ∧ (applyC St0 l ≠ 0 → applyS St0 l = St0) := by
  have e : applyC St0 l = runC St0 l := by unfold applyC; rw [if_neg (by omega)]
  obtain ⟨h1, h2⟩ := partF_run St0 l
  refine ⟨by rw [e, h1], fun h => ?_, fun h => ?_⟩
  · unfold applyS
    rw [if_pos h, h2 (by rw [← e]; exact h)]
  · unfold applyS
    rw [if_neg h]
/-- An operation that locks ability k. -/
def lockOp (k : Nat) : OpA := ⟨2, k, 3, 0, 0⟩
theorem lock_zero {S : St} {k : Nat} (hk : k < 32) (h : StOk S) : codeS S (lockOp k) = 0 := by
  have h0 : checkS (lockOp k) = 0 := by
    unfold checkS lockOp MX
    simp only
    rw [if_neg (by omega), if_neg (by omega), if_neg (by omega)]
  have hone : ∀ d r, oneS (lockOp k) d r = { r with lk := true } := by
    intro d r
    unfold oneS hasD
    rw [if_pos (by unfold lockOp; split <;> simp)]
    unfold effS lockOp
    simp
  have hbad : ∀ d r, badS (lockOp k) d r = false := by
    intro d r
    unfold badS
    rw [hone]
    cases hr : r.lk with
    | false => simp
    | true =>
      have : r.eqb { r with lk := true } = true := by rw [Rt.eqb_iff, ← hr]
      rw [this]; simp
  have hbig : ∀ d i, i < 64 → bigS (lockOp k) d (S i) = false := by
    intro d i hi
    unfold bigS
    rw [hone]
    have := (h i hi).2
    simp only [Bool.and_eq_false_iff, decide_eq_false_iff_not]
    right
    omega
  have e0 : at0 (lockOp k) < 64 := by unfold at0 lockOp; simp only; omega
  have e1 : at1 (lockOp k) < 64 := by unfold at1 lockOp; simp only; omega
  unfold codeS
  rw [if_neg (by simp [h0]), hbad, hbad, hbig _ _ e0, hbig _ _ e1]
  simp
theorem lock_next {S : St} {k : Nat} (hk : k < 32) : (nextS S (lockOp k) k).lk = true ∧ (nextS S (lockOp k) (32 + k)).lk = true := by
  have hone : ∀ d r, (oneS (lockOp k) d r).lk = true := by
    intro d r
    unfold oneS hasD
    rw [if_pos (by unfold lockOp; split <;> simp)]
    unfold effS lockOp
    simp
  have e0 : at0 (lockOp k) = k := by unfold at0 lockOp; simp
  have e1 : at1 (lockOp k) = 32 + k := by unfold at1 lockOp; simp
  unfold nextS
  rw [e0, e1, upd_other _ _ (by omega), upd_same, upd_same]
  exact ⟨hone _ _, hone _ _⟩
/-- A locked right stays. -/
theorem locked_step {S : St} {o : OpA} {i : Nat} (hi : i < 64) (h : (S i).lk = true) : stepS S o i = S i := by
  unfold stepS
  split
  · rename_i hc
    obtain ⟨h0, h1, h2, h3, h4⟩ := codeS_zero hc
    obtain ⟨-, ⟨h5, h6⟩, -⟩ := checkS_ok h0
    have keep : ∀ d, badS o d (S i) = false → oneS o d (S i) = S i := by
      intro d hb
      by_cases hd : hasD o.dom d = true
      · unfold badS at hb
        rw [hd, h] at hb
        simp only [Bool.true_and, Bool.not_eq_false'] at hb
        exact ((Rt.eqb_iff _ _).1 hb).symm
      · unfold oneS
        rw [if_neg hd]
    unfold nextS
    by_cases e : i = at1 o
    · subst e; rw [upd_same]; exact keep 1 h2
    · rw [upd_other _ _ e]
      by_cases e : i = at0 o
      · subst e; rw [upd_same]; exact keep 0 h1
      · rw [upd_other _ _ e]
  · rfl
theorem locked_child {S : St} {i : Nat} (h : (S i).lk = true) : childS S i = S i := by
  unfold childS
  rw [if_pos (.inl h)]
end Go.Proofs.YthccppldpfddjaaDoor
