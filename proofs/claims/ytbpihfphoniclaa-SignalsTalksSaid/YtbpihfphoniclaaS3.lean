/- Tables of some threads of the process 0 (plain). -/
import Derived.Test.YtbpihfphoniclaaS2
namespace Go.Proofs.Ytbpihfphoniclaa
def Tn (n : Nat) (m : Nat → Nat) (ls : Nat → List Pd) : St := { tk := fun i => if i < n then some ⟨0, m i, false, 0⟩ else none, ac := fun _ _ => 0, ls := ls, got := fun _ => 0 }
abbrev Nl : Nat → List Pd := fun _ => []
theorem tn0 (m : Nat → Nat) : S0 = Tn 0 m Nl := by
  unfold S0 Tn
  congr 1
theorem upd_self {α : Type} (f : Nat → α) (i : Nat) : upd f i (f i) = f := by
  funext j
  by_cases e : j = i
  · subst e; rw [upd_same]
  · rw [upd_other _ _ e]
theorem isTh_nat {i : Nat} (h : i < 256) : isTh (i : Int) = true := by simp [isTh]; omega
theorem tn_tk {n i : Nat} {m : Nat → Nat} {ls : Nat → List Pd} (h : i < n) : (Tn n m ls).tk i = some ⟨0, m i, false, 0⟩ := by simp [Tn, h]
theorem tn_tk_none {n i : Nat} {m : Nat → Nat} {ls : Nat → List Pd} (h : ¬ i < n) : (Tn n m ls).tk i = none := by simp [Tn, h]
theorem start_tn (n : Nat) (hn : n < 256) (m : Nat → Nat) : startS (Tn n m Nl) n 0 = (0, Tn (n + 1) (upd m n 0) Nl) := by
  unfold startS
  rw [isTh_nat hn, show isPr 0 = true by decide, Int.toNat_natCast, tn_tk_none (by omega)]
  simp only [Bool.not_true, Bool.or_self, Bool.false_eq_true, if_false, Option.isSome_none]
  unfold Tn
  refine congrArg (Prod.mk 0) ?_
  congr 1
  · funext i
    by_cases e : i = n
    · subst e; simp
    · rw [upd_other _ _ e, upd_other _ _ e]
      dsimp only
      by_cases h : i < n
      · rw [if_pos h, if_pos (by omega)]
      · rw [if_neg h, if_neg (by omega)]
  · exact upd_self (fun _ => (0 : Int)) n
theorem mask_tn (n i : Nat) (hi : i < n) (hn : n ≤ 256) (m : Nat → Nat) (ls : Nat → List Pd) (b : Nat) : maskS (Tn n m ls) i 2 b = ((m i, 0), Tn n (upd m i (newMask (m i) 2 b)) ls) := by
  unfold maskS
  rw [isTh_nat (by omega), Int.toNat_natCast, tn_tk hi]
  simp only [Bool.not_true, Bool.false_eq_true, if_false]
  rw [if_neg (by omega)]
  refine congrArg (Prod.mk (m i, (0 : Int))) ?_
  unfold Tn
  congr 1
  funext j
  by_cases e : j = i
  · subst e; simp [hi]
  · rw [upd_other _ _ e, upd_other _ _ e]
theorem threads_tn3 (m : Nat → Nat) (ls : Nat → List Pd) : threads (Tn 3 m ls) 0 = [0, 1, 2] := by
  unfold threads
  have e : ∀ i, inP (Tn 3 m ls) 0 i = decide (i < 3) := by
    intro i
    unfold inP
    by_cases h : i < 3
    · rw [tn_tk h]; simp [h]
    · rw [tn_tk_none h]; simp [h]
  rw [show inP (Tn 3 m ls) 0 = fun i => decide (i < 3) from funext e]
  decide +kernel
theorem opposite_nil (S : St) (h : S.ls = Nl) (p : Nat) (s : Int) : opposite S p s = S := by
  have hf : ∀ q, forget S p q = S := by
    intro q
    obtain ⟨tk, ac, ls, got⟩ := S
    simp only at h
    subst h
    unfold forget
    congr 1
    funext i
    split <;> rfl
  unfold opposite
  rw [hf, hf]
  split
  · rfl
  · split <;> rfl
theorem ignored_tn (n : Nat) (m : Nat → Nat) (ls : Nat → List Pd) (p : Nat) {s : Int} (h : s ≠ 17) : ignored (Tn n m ls) p s = false := by
  unfold ignored Tn
  simp [h]
theorem kill_tn (m : Nat → Nat) (s v : Int) (h1 : 1 ≤ s) (h2 : s ≤ 56) (h17 : s ≠ 17) : ∃ slot, (slot = 0 ∨ slot = 1 ∨ slot = 2 ∨ slot = 256) ∧ killS (Tn 3 m Nl) (-1) 0 s v = (([], 0), Tn 3 m (upd Nl slot [(s, v)])) := by
  unfold killS
  rw [if_neg (by rintro (⟨h, _⟩ | h); exact h rfl; revert h; decide), if_neg (by omega), threads_tn3]
  dsimp only
  rw [if_neg (by rintro (⟨h, _⟩ | h); exact h rfl; cases h), if_pos rfl]
  have hw : ∀ i, waitsFor (Tn 3 m Nl) s i = false := by
    intro i
    unfold waitsFor
    by_cases h : i < 3
    · rw [tn_tk h]; simp
    · rw [tn_tk_none h]
  rw [ignored_tn 3 m Nl _ h17, opposite_nil (Tn 3 m Nl) rfl]
  obtain ⟨to, hto, hor⟩ : ∃ to, choose (Tn 3 m Nl) [0, 1, 2] s = to ∧ (to = -1 ∨ to = 0 ∨ to = 1 ∨ to = 2) := by
    refine ⟨_, rfl, ?_⟩
    rcases choose_in (Tn 3 m Nl) [0, 1, 2] s with h | ⟨i, hi, h⟩
    · exact .inl h
    · simp at hi
      omega
  rw [hto, hw, if_neg (by simp), if_neg (by rw [show (Tn 3 m Nl).ls (slotOf to (0 : Int).toNat) = [] from rfl]; simp [queued]), if_pos ⟨rfl, .inr rfl⟩]
  refine ⟨slotOf to 0, ?_, rfl⟩
  unfold slotOf
  rcases hor with rfl | rfl | rfl | rfl <;> simp
theorem hasB_all {s : Int} (h1 : 1 ≤ s) (h2 : s ≤ 56) : hasB allM s = true := by
  unfold hasB
  rw [show allM = 2 ^ 56 - 1 by decide, Nat.testBit_two_pow_sub_one]
  simp
  omega
theorem next_none (m : Nat → Nat) (ls : Nat → List Pd) (i : Nat) (hi : i < 3) (h1 : ls i = []) (h2 : ls 256 = []) : nextS (Tn 3 m ls) i = (((0, 0, 0), false), Tn 3 m ls) := by
  unfold nextS
  rw [isTh_nat (by omega), Int.toNat_natCast, tn_tk hi]
  simp only [Bool.not_true, Bool.false_eq_true, if_false]
  rw [if_pos]
  unfold both
  rw [show (Tn 3 m ls).ls i = [] from h1, show (Tn 3 m ls).ls (256 + (0 : Int).toNat) = [] from h2]
  rfl
theorem next_one (m : Nat → Nat) (i slot : Nat) (hi : i < 3) (hs : slot = i ∨ slot = 256) (s v : Int) (h1 : 1 ≤ s) (h2 : s ≤ 56) (hm : m i = 0) : ∃ d, nextS (Tn 3 m (upd Nl slot [(s, v)])) i = (((s, v, d), true), Tn 3 m Nl) := by
  unfold nextS
  rw [isTh_nat (by omega), Int.toNat_natCast, tn_tk hi, hm]
  simp only [Bool.not_true, Bool.false_eq_true, if_false]
  have hl : lowest (both (Tn 3 m (upd Nl slot [(s, v)])) i (0 : Int).toNat) (allM &&& (18446744073709551615 - 0)) = s := by
    have hb : both (Tn 3 m (upd Nl slot [(s, v)])) i (0 : Int).toNat = [(s, v)] := by
      show upd Nl slot [(s, v)] i ++ upd Nl slot [(s, v)] 256 = _
      rcases hs with rfl | rfl
      · rw [upd_same, upd_other _ _ (by omega)]; rfl
      · rw [upd_same, upd_other _ _ (by omega)]; rfl
    rw [hb, show allM &&& (18446744073709551615 - 0) = allM by decide]
    unfold lowest
    simp [hasB_all h1 h2]
  rw [hl, if_neg (by omega)]
  have hsrc : srcOf (Tn 3 m (upd Nl slot [(s, v)])) i (0 : Int).toNat s = slot := by
    unfold srcOf
    show (if pends (upd Nl slot [(s, v)] i) s then i else 256) = slot
    rcases hs with rfl | rfl
    · rw [upd_same]; simp [pends]
    · rw [upd_other _ _ (by omega)]; simp [pends]
  have htk : takeS (Tn 3 m (upd Nl slot [(s, v)])) i (0 : Int).toNat s = (v, Tn 3 m Nl) := by
    unfold takeS
    rw [hsrc]
    show (valOf (upd Nl slot [(s, v)] slot) s, { Tn 3 m (upd Nl slot [(s, v)]) with ls := upd (upd Nl slot [(s, v)]) slot (cut (upd Nl slot [(s, v)] slot) s) }) = _
    rw [upd_same]
    have e1 : valOf [(s, v)] s = v := by simp [valOf]
    have e2 : cut [(s, v)] s = [] := by simp [cut]
    rw [e1, e2]
    refine congrArg (Prod.mk v) ?_
    unfold Tn
    dsimp only
    congr 1
    funext j
    by_cases e : j = slot
    · subst e; rw [upd_same]
    · rw [upd_other _ _ e, upd_other _ _ e]
  rw [htk]
  exact ⟨_, rfl⟩
end Go.Proofs.Ytbpihfphoniclaa
