/- SignalsQueued in plain words: one thread of one process, its list and what is wanted of each signal. -/
import Derived.Test.YtbpihfphoniclaaS6
namespace Go.Proofs.Ytbpihfphoniclaa
def Sq (m : Nat) (Q : List Pd) : St := { tk := fun i => if i = 0 then some ⟨0, m, false, 0⟩ else none, ac := upd (fun _ _ => 0) 0 (upd (fun _ => 0) 10 2), ls := fun i => if i = 0 then Q else [], got := fun _ => 0 }
def want (Q : List Pd) (s : Int) : List Int := (Q.filter fun x => x.1 == s).map fun x => x.2
def addQ (Q : List Pd) (s i : Int) : List Pd := if s = 10 ∧ want Q 10 ≠ [] then Q else Q ++ [(s, i)]
def Ok3 (s : Int) : Prop := s = 10 ∨ s = 41 ∨ s = 50
def All3 (Q : List Pd) : Prop := ∀ x ∈ Q, Ok3 x.1
theorem want_append (Q : List Pd) (s i r : Int) : want (Q ++ [(s, i)]) r = if s = r then want Q r ++ [i] else want Q r := by
  unfold want
  rw [List.filter_append, List.map_append]
  by_cases h : s = r
  · subst h; simp
  · have : (s == r) = false := by simpa using h
    simp [h, List.filter_cons, this]
theorem want_nil_iff {Q : List Pd} {s : Int} : want Q s = [] ↔ pends Q s = false := by
  unfold want pends
  rw [List.map_eq_nil_iff, List.filter_eq_nil_iff, List.any_eq_false]
theorem All3.add {Q : List Pd} (h : All3 Q) {s : Int} (hs : Ok3 s) (i : Int) : All3 (addQ Q s i) := by
  unfold addQ
  split
  · exact h
  · intro x hx
    rcases List.mem_append.1 hx with hm | hm
    · exact h x hm
    · obtain rfl : x = (s, i) := by simpa using hm
      exact hs
theorem addQ_len (Q : List Pd) (s i : Int) : (addQ Q s i).length ≤ Q.length + 1 := by
  unfold addQ
  split
  · omega
  · simp
theorem start_sq : startS S0 0 0 = (0, { Sq 0 [] with ac := fun _ _ => 0 }) := by
  have h := start_tn 0 (by omega) (fun _ => 0)
  have e : startS S0 0 0 = startS (Tn 0 (fun _ => 0) Nl) ((0 : Nat) : Int) 0 := by rw [← tn0]; rfl
  rw [e, h]
  refine congrArg (Prod.mk (0 : Int)) ?_
  unfold Tn Sq
  congr 1
  · funext i
    by_cases hi : i = 0
    · subst hi; simp
    · simp [hi]
  · funext i
    by_cases hi : i = 0 <;> simp [hi]
theorem action_sq : actionS { Sq 0 [] with ac := fun _ _ => 0 } 0 10 2 = ((0, 0), Sq 0 []) := by
  unfold actionS
  rw [show isPr 0 = true by decide]
  simp only [Bool.not_true, Bool.false_eq_true, if_false]
  rw [if_neg (by omega), if_neg (by omega), if_neg]
  · rfl
  · unfold ignored
    decide
theorem sq_tk (m : Nat) (Q : List Pd) : (Sq m Q).tk 0 = some ⟨0, m, false, 0⟩ := rfl
theorem mask_sq (m : Nat) (Q : List Pd) (b : Nat) : maskS (Sq m Q) 0 2 b = ((m, 0), Sq (newMask m 2 b) Q) := by
  unfold maskS
  rw [show isTh 0 = true by decide, show (0 : Int).toNat = 0 from rfl, sq_tk]
  simp only [Bool.not_true, Bool.false_eq_true, if_false]
  rw [if_neg (by omega)]
  refine congrArg (Prod.mk (m, (0 : Int))) ?_
  unfold Sq
  congr 1
  funext i
  by_cases hi : i = 0
  · subst hi; simp
  · rw [upd_other _ _ hi]; simp [hi]
theorem ignored_sq (m : Nat) (Q : List Pd) {s : Int} (hs : Ok3 s) : ignored (Sq m Q) 0 s = false := by
  unfold ignored Sq
  dsimp only
  rcases hs with rfl | rfl | rfl <;> decide
theorem kill_sq (m : Nat) (Q : List Pd) {s : Int} (hs : Ok3 s) (i : Int) (hq : Q.length < 64) : killS (Sq m Q) 0 0 s i = (([], 0), Sq m (addQ Q s i)) := by
  have h1 : 1 ≤ s ∧ s ≤ 56 ∧ s ≠ 18 ∧ s ≠ 19 := by rcases hs with rfl | rfl | rfl <;> omega
  have hmem : (0 : Nat) ∈ threads (Sq m Q) 0 := mem_threads.2 ⟨by omega, _, sq_tk m Q, rfl⟩
  have hop : opposite (Sq m Q) 0 s = Sq m Q := by
    unfold opposite
    rw [if_neg h1.2.2.1, if_neg h1.2.2.2]
  unfold killS
  rw [if_neg (by rintro (⟨_, h⟩ | h) <;> (revert h; decide)), if_neg (by omega)]
  dsimp only
  have eto : (if (0 : Int) = -1 then choose (Sq m Q) (threads (Sq m Q) 0) s else 0) = 0 := if_neg (by omega)
  have hql := List.length_filter_le (fun x : Pd => decide (41 ≤ x.1)) Q
  rw [eto, if_neg (by
    rintro (⟨_, h⟩ | h)
    · exact h hmem
    · rw [h] at hmem; cases hmem), if_neg (by
    rintro ⟨_, h⟩
    unfold waitsFor at h
    rw [show (0 : Int).toNat = 0 from rfl, sq_tk] at h
    cases h), show (0 : Int).toNat = 0 from rfl, ignored_sq m Q hs, hop, show slotOf 0 0 = 0 from rfl]
  rw [if_neg (by
    rintro ⟨_, _, h⟩
    have h : 64 ≤ queued Q := h
    unfold queued at h
    omega)]
  rw [show (Sq m Q).ls 0 = Q from rfl]
  unfold addQ
  by_cases h10 : s = 10 ∧ want Q 10 ≠ []
  · rw [if_pos h10, if_neg]
    rintro ⟨_, h | h⟩
    · omega
    · rw [h10.1] at h
      exact h10.2 (want_nil_iff.2 h)
  · rw [if_neg h10, if_pos]
    · refine congrArg (Prod.mk (([] : List (Int × Int × Int)), (0 : Int))) ?_
      unfold Sq
      congr 1
      funext j
      by_cases hj : j = 0
      · subst hj; simp
      · rw [upd_other _ _ hj]; simp [hj]
    · refine ⟨rfl, ?_⟩
      rcases hs with rfl | h | h
      · right
        refine want_nil_iff.1 ?_
        exact Decidable.byContradiction fun hn => h10 ⟨rfl, hn⟩
      · left; omega
      · left; omega
end Go.Proofs.Ytbpihfphoniclaa
