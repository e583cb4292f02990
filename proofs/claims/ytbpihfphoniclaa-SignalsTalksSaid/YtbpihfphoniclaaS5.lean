/- SignalsStops and SignalsKill in plain words. -/
import Derived.Test.YtbpihfphoniclaaS4
import Derived.Test.YtbpihfphoniclaaS3
namespace Go.Proofs.Ytbpihfphoniclaa
/-- The five threads of the two processes are there. -/
def Five (S : St) : Prop := ∀ i : Nat, i < 5 → ∃ x, S.tk i = some x ∧ x.proc = ((i / 3 : Nat) : Int)
theorem Five.keep {S S' : St} (h : Five S) (k : Keeps S S') : Five S' := by
  intro i hi
  obtain ⟨x, hx, hp⟩ := h i hi
  obtain ⟨y, hy, hyp⟩ := k i x hx
  exact ⟨y, hy, by rw [hyp, hp]⟩
theorem orOf_bit (l : List Pd) (j : Nat) : (orOf l).testBit j = l.any fun x => (x.1 - 1).toNat == j := by
  have key : ∀ (l : List Pd) (a : Nat), (l.foldl (fun m x => m ||| 2 ^ (x.1 - 1).toNat) a).testBit j = (a.testBit j || l.any fun x => (x.1 - 1).toNat == j) := by
    intro l
    induction l with
    | nil => intro a; simp
    | cons x l ih =>
      intro a
      rw [List.foldl_cons, ih, Nat.testBit_or, Nat.testBit_two_pow, List.any_cons, Bool.or_assoc]
      congr 2
  unfold orOf
  rw [key]
  simp
theorem pending_five {S : St} (h : Five S) (i : Nat) (hi : i < 5) : pendingS S i = (orOf (both S i (i / 3)), 0) := by
  obtain ⟨x, hx, hp⟩ := h i hi
  unfold pendingS
  rw [isTh_nat (by omega), Int.toNat_natCast, hx]
  simp only [Bool.not_true, Bool.false_eq_true, if_false]
  rw [hp, Int.toNat_natCast]
theorem bit_pn {S : St} {m : Nat} (hv : Inv S m) (h : Five S) {i : Nat} (hi : i < 5) {s : Int} (hs : 1 ≤ s) (hb : (orOf (both S i (i / 3))).testBit (s - 1).toNat = true) : Pn S (i / 3) s := by
  rw [orOf_bit, List.any_eq_true] at hb
  obtain ⟨⟨a, v⟩, hm, he⟩ := hb
  have he : (a - 1).toNat = (s - 1).toNat := by simpa using he
  unfold both at hm
  rcases List.mem_append.1 hm with hm | hm
  · have := (hv.sig i (by omega) _ hm).1
    obtain rfl : a = s := by simp at this; omega
    obtain ⟨x, hx, hp⟩ := h i hi
    exact .inr ⟨i, by omega, inP_iff.2 ⟨x, hx, hp⟩, v, hm⟩
  · have := (hv.sig _ (by omega) _ hm).1
    obtain rfl : a = s := by simp at this; omega
    exact .inl ⟨v, hm⟩
/-- What the law asks for the process of the threads a ≤ i < b. -/
theorem not_both {S : St} {m : Nat} (hv : Inv S m) (h : Five S) (hn : NoB S) {p : Nat} (hp : p < 64) (l : List Nat) (hl : ∀ i ∈ l, i < 5 ∧ i / 3 = p) :
    ¬ ((l.foldl (fun a i => a ||| orOf (both S i p)) 0).testBit 18 = true ∧ (l.foldl (fun a i => a ||| orOf (both S i p)) 0).testBit 17 = true) := by
  have key : ∀ (s : Int), 1 ≤ s → (l.foldl (fun a i => a ||| orOf (both S i p)) 0).testBit (s - 1).toNat = true → Pn S p s := by
    intro s hs hb
    have fold : ∀ (l : List Nat) (a : Nat), (l.foldl (fun a i => a ||| orOf (both S i p)) a).testBit (s - 1).toNat = (a.testBit (s - 1).toNat || l.any fun i => (orOf (both S i p)).testBit (s - 1).toNat) := by
      intro l
      induction l with
      | nil => intro a; simp
      | cons x l ih => intro a; rw [List.foldl_cons, ih, Nat.testBit_or, List.any_cons, Bool.or_assoc]
    rw [fold] at hb
    simp only [Nat.zero_testBit, Bool.false_or, List.any_eq_true] at hb
    obtain ⟨i, hi, hb⟩ := hb
    obtain ⟨h5, rfl⟩ := hl i hi
    exact bit_pn hv h h5 hs hb
  rintro ⟨h1, h2⟩
  exact hn p hp ⟨key 18 (by omega) h2, key 19 (by omega) h1⟩
/-- The table behind the five calls that start its threads. -/
def st5 : St := callS (callS (callS (callS (callS S0 0 0 0 0 0 0 0) 0 1 0 0 0 0 0) 0 2 0 0 0 0 0) 0 3 1 0 0 0 0) 0 4 1 0 0 0 0
theorem five_st5 : Five st5 := by
  intro i hi
  obtain rfl | rfl | rfl | rfl | rfl : i = 0 ∨ i = 1 ∨ i = 2 ∨ i = 3 ∨ i = 4 := by omega
  · exact ⟨⟨0, 0, false, 0⟩, rfl, rfl⟩
  · exact ⟨⟨0, 0, false, 0⟩, rfl, rfl⟩
  · exact ⟨⟨0, 0, false, 0⟩, rfl, rfl⟩
  · exact ⟨⟨1, 0, false, 0⟩, rfl, rfl⟩
  · exact ⟨⟨1, 0, false, 0⟩, rfl, rfl⟩
theorem inv_st5 : Inv st5 5 := ((((inv0.callS 0 0 0 0 0 0 0).callS 0 1 0 0 0 0 0).callS 0 2 0 0 0 0 0).callS 0 3 1 0 0 0 0).callS 0 4 1 0 0 0 0
theorem noB_st5 : NoB st5 := by
  have h : st5.ls = Nl := rfl
  rintro p hp ⟨(⟨v, hv⟩ | ⟨i, _, _, v, hv⟩), _⟩
  · rw [h] at hv; cases hv
  · rw [h] at hv; cases hv
/-- SigKill and SigStop keep their actions. -/
def Ac9 (S : St) : Prop := ∀ p, S.ac p 9 = 0 ∧ S.ac p 19 = 0
theorem ac9_st5 : Ac9 st5 := fun _ => ⟨rfl, rfl⟩
theorem takeS_ac' (S : St) (th p : Nat) (s : Int) : (takeS S th p s).2.ac = S.ac := rfl
theorem ac9_call {S : St} (h : Ac9 S) (k th p s n : Int) (b : Nat) (v : Int) (hk : 2 ≤ k) : Ac9 (callS S k th p s n b v) := by
  have same : ∀ S' : St, S'.ac = S.ac → Ac9 S' := fun S' e p => by rw [e]; exact h p
  unfold callS
  rw [if_neg (by omega), if_neg (by omega)]
  split
  · unfold actionS
    split
    · exact h
    split
    · exact h
    rename_i c1
    split
    · exact h
    rename_i c2
    dsimp only
    have hup : ∀ q, upd S.ac p.toNat (upd (S.ac p.toNat) s.toNat n) q 9 = 0 ∧ upd S.ac p.toNat (upd (S.ac p.toNat) s.toNat n) q 19 = 0 := by
      intro q
      by_cases e : q = p.toNat
      · subst e
        rw [upd_same, upd_other _ _ (by omega), upd_other _ _ (by omega)]
        exact h _
      · rw [upd_other _ _ e]; exact h q
    split
    · exact hup
    · exact hup
  split
  · refine same _ ?_
    unfold maskS
    split
    · rfl
    split
    · rfl
    split <;> rfl
  split
  · refine same _ ?_
    unfold killS
    split
    · rfl
    split
    · rfl
    dsimp only
    split
    · rfl
    obtain ⟨to, hto⟩ : ∃ to, (if th = -1 then choose S (threads S p) s else th) = to := ⟨_, rfl⟩
    rw [hto]
    split
    · exact opposite_ac S _ s
    split
    · rfl
    split
    · exact opposite_ac S _ s
    · exact opposite_ac S _ s
  split
  · refine same _ ?_
    unfold waitS
    split
    · rfl
    split
    · rfl
    · split
      · rfl
      · dsimp only
        split
        · rfl
        · rfl
  split
  · refine same _ ?_
    unfold nextS
    split
    · rfl
    split
    · rfl
    · split
      · rfl
      · dsimp only
        split
        · rfl
        · rfl
  split
  · refine same _ ?_
    unfold cancelS
    split
    · rfl
    split
    · rfl
    · split <;> rfl
  · exact h
end Go.Proofs.Ytbpihfphoniclaa
