/- The state of a set of rights in plain words, and what operations do with it. -/
import Derived.Test.YthccppldpfddjaaDoorM1
namespace Go.Proofs.YthccppldpfddjaaDoor
structure Rt where
  rs : List Rg
  lk : Bool
  inh : Bool
/-- Two rights are equal. -/
def Rt.eqb (a b : Rt) : Bool := a.lk == b.lk && a.inh == b.inh && decide (a.rs = b.rs)
theorem Rt.eqb_iff (a b : Rt) : a.eqb b = true ↔ a = b := by
  obtain ⟨r1, l1, i1⟩ := a
  obtain ⟨r2, l2, i2⟩ := b
  simp only [Rt.eqb, Bool.and_eq_true, beq_iff_eq, decide_eq_true_eq, Rt.mk.injEq]
  constructor
  · rintro ⟨⟨h1, h2⟩, h3⟩; exact ⟨h3, h1, h2⟩
  · rintro ⟨h1, h2, h3⟩; exact ⟨⟨h2, h3⟩, h1⟩
/-- All rights: that of ability a in domain d has number 32 d + a. -/
abbrev St := Nat → Rt
def upd {α : Type} (f : Nat → α) (i : Nat) (x : α) : Nat → α := fun j => if j = i then x else f j
theorem upd_same {α : Type} (f : Nat → α) (i : Nat) (x : α) : upd f i x i = x := by simp [upd]
theorem upd_other {α : Type} (f : Nat → α) {i j : Nat} (x : α) (h : j ≠ i) : upd f i x j = f j := by simp [upd, h]
def stdR (d : Nat) : Rt := if d = 0 then ⟨[(0, MX)], false, false⟩ else ⟨[], false, false⟩
def St0 : St := fun i => stdR (i / 32)
structure OpA where
  kind : Int
  ab : Int
  dom : Int
  lo : Int
  hi : Int
def checkS (o : OpA) : Int :=
  if o.kind < 0 ∨ 5 ≤ o.kind then 17
  else if o.ab < 0 ∨ 32 ≤ o.ab ∨ o.lo < 0 ∨ o.hi < o.lo ∨ MX < o.hi ∨ (1 < o.kind ∧ (o.lo ≠ 0 ∨ o.hi ≠ 0)) then 34
  else if o.dom < 1 ∨ 3 < o.dom then 14 else 0
def effS (k : Int) (lo hi : Int) (r : Rt) : Rt :=
  if k = 0 then { r with rs := withR r.rs lo hi } else if k = 1 then { r with rs := outS r.rs lo hi } else if k = 2 then { r with lk := true } else if k = 3 then { r with inh := true } else { r with inh := false }
/-- Whether an operation names domain d (0 or 1). -/
def hasD (dom : Int) (d : Nat) : Bool := if d = 0 then decide (dom = 1 ∨ dom = 3) else decide (dom = 2 ∨ dom = 3)
def oneS (o : OpA) (d : Nat) (r : Rt) : Rt := if hasD o.dom d = true then effS o.kind o.lo o.hi r else r
def badS (o : OpA) (d : Nat) (r : Rt) : Bool := hasD o.dom d && r.lk && !(r.eqb (oneS o d r))
def bigS (o : OpA) (d : Nat) (r : Rt) : Bool := hasD o.dom d && decide (50 < (oneS o d r).rs.length)
def at0 (o : OpA) : Nat := o.ab.toNat
def at1 (o : OpA) : Nat := 32 + o.ab.toNat
/-- An operation on all rights: the error's number, and the rights behind it. -/
def codeS (S : St) (o : OpA) : Int :=
  if checkS o ≠ 0 then checkS o
  else if badS o 0 (S (at0 o)) = true ∨ badS o 1 (S (at1 o)) = true then 32
  else if bigS o 0 (S (at0 o)) = true ∨ bigS o 1 (S (at1 o)) = true then 18 else 0
def nextS (S : St) (o : OpA) : St := upd (upd S (at0 o) (oneS o 0 (S (at0 o)))) (at1 o) (oneS o 1 (S (at1 o)))
def stepS (S : St) (o : OpA) : St := if codeS S o = 0 then nextS S o else S
/-- A list of operations: the first error's number, and the rights behind all. -/
def runC : St → List OpA → Int
  | _, [] => 0
  | S, o :: l => if codeS S o = 0 then runC (nextS S o) l else codeS S o
def runS : St → List OpA → St
  | S, [] => S
  | S, o :: l => if codeS S o = 0 then runS (nextS S o) l else S
def applyC (S : St) (l : List OpA) : Int := if 200 < l.length then 18 else runC S l
def applyS (S : St) (l : List OpA) : St := if applyC S l = 0 then runS S l else S
def RtOk (r : Rt) : Prop := Good r.rs ∧ r.rs.length ≤ 50
def StOk (S : St) : Prop := ∀ i, i < 64 → RtOk (S i)
theorem stdR_ok (d : Nat) : RtOk (stdR d) := by
  unfold stdR
  split
  · exact ⟨good_nil.cons ⟨by decide, by decide, by decide⟩ (by simp), by simp⟩
  · exact ⟨good_nil, by simp⟩
theorem St0_ok : StOk St0 := fun _ _ => stdR_ok _
theorem checkS_ok {o : OpA} (h : checkS o = 0) : (0 ≤ o.kind ∧ o.kind < 5) ∧ (0 ≤ o.ab ∧ o.ab < 32) ∧ okR (o.lo, o.hi) ∧ (1 ≤ o.dom ∧ o.dom ≤ 3) ∧ (1 < o.kind → o.lo = 0 ∧ o.hi = 0) := by
  unfold checkS at h
  split at h
  · simp at h
  · split at h
    · simp at h
    · split at h
      · simp at h
      · unfold okR
        simp only
        omega
theorem effS_good {k lo hi : Int} {r : Rt} (h : Good r.rs) (hl : okR (lo, hi)) : Good (effS k lo hi r).rs := by
  unfold effS
  split
  · exact withR_good h hl
  · split
    · exact outS_good h hl.2.1
    · split
      · exact h
      · split <;> exact h
theorem oneS_good {o : OpA} {d : Nat} {r : Rt} (h : Good r.rs) (ho : checkS o = 0) : Good (oneS o d r).rs := by
  unfold oneS
  split
  · exact effS_good h (checkS_ok ho).2.2.1
  · exact h
theorem codeS_zero {S : St} {o : OpA} (h : codeS S o = 0) : checkS o = 0 ∧ badS o 0 (S (at0 o)) = false ∧ badS o 1 (S (at1 o)) = false ∧ bigS o 0 (S (at0 o)) = false ∧ bigS o 1 (S (at1 o)) = false := by
  unfold codeS at h
  split at h
  · contradiction
  · rename_i h0
    split at h
    · simp at h
    · split at h
      · simp at h
      · rename_i h1 h2
        simp only [not_or, Bool.not_eq_true] at h1 h2
        exact ⟨by simpa using h0, h1.1, h1.2, h2.1, h2.2⟩
theorem oneS_ok {o : OpA} {d : Nat} {r : Rt} (h : RtOk r) (ho : checkS o = 0) (hb : bigS o d r = false) : RtOk (oneS o d r) := by
  refine ⟨oneS_good h.1 ho, ?_⟩
  by_cases hd : hasD o.dom d = true
  · unfold bigS at hb
    rw [hd] at hb
    simp at hb
    exact hb
  · unfold oneS
    rw [if_neg hd]
    exact h.2
theorem nextS_ok {S : St} {o : OpA} (h : StOk S) (hc : codeS S o = 0) : StOk (nextS S o) := by
  obtain ⟨h0, h1, h2, h3, h4⟩ := codeS_zero hc
  obtain ⟨-, ⟨h5, h6⟩, -⟩ := checkS_ok h0
  have e0 : at0 o < 64 := by unfold at0; omega
  have e1 : at1 o < 64 := by unfold at1; omega
  intro i hi
  unfold nextS
  by_cases e : i = at1 o
  · subst e; rw [upd_same]; exact oneS_ok (h _ hi) h0 h4
  · rw [upd_other _ _ e]
    by_cases e : i = at0 o
    · subst e; rw [upd_same]; exact oneS_ok (h _ hi) h0 h3
    · rw [upd_other _ _ e]; exact h i hi
theorem runS_ok {S : St} (l : List OpA) (h : StOk S) : StOk (runS S l) := by
  induction l generalizing S with
  | nil => exact h
  | cons o l ih =>
    unfold runS
    split
    · exact ih (nextS_ok h ‹_›)
    · exact h
theorem applyS_ok {S : St} (l : List OpA) (h : StOk S) : StOk (applyS S l) := by
  unfold applyS
  split
  · exact runS_ok l h
  · exact h
/-- A child's rights. -/
def childS (S : St) : St := fun i => if (S i).lk = true ∨ (S i).inh = true then S i else St0 i
theorem childS_ok {S : St} (h : StOk S) : StOk (childS S) := by
  intro i hi
  unfold childS
  split
  · exact h i hi
  · exact St0_ok i hi
end Go.Proofs.YthccppldpfddjaaDoor
