/- SignalsQueued in plain words: Next. -/
import Derived.Test.YtbpihfphoniclaaS7
namespace Go.Proofs.Ytbpihfphoniclaa
theorem filter_eraseP {α : Type} (p : α → Bool) (l : List α) : (l.eraseP p).filter p = (l.filter p).tail := by
  induction l with
  | nil => rfl
  | cons x l ih =>
    cases h : p x with
    | true => simp [List.eraseP_cons, List.filter_cons, h]
    | false => simp [List.eraseP_cons, List.filter_cons, h, ih]
theorem filter_eraseP_other {α : Type} (p q : α → Bool) (h : ∀ x, p x = true → q x = false) (l : List α) : (l.eraseP p).filter q = l.filter q := by
  induction l with
  | nil => rfl
  | cons x l ih =>
    cases hp : p x with
    | true => simp [List.eraseP_cons, List.filter_cons, hp, h x hp]
    | false => simp [List.eraseP_cons, List.filter_cons, hp, ih]
theorem want_cut (Q : List Pd) (s : Int) : want (cut Q s) s = (want Q s).tail := by
  unfold want cut
  rw [filter_eraseP, List.map_tail]
theorem want_cut_other (Q : List Pd) {s r : Int} (h : r ≠ s) : want (cut Q s) r = want Q r := by
  unfold want cut
  rw [filter_eraseP_other]
  intro x hx
  simp only [beq_iff_eq] at hx
  rw [hx]
  simpa using fun e => h e.symm
theorem valOf_want {Q : List Pd} {s v : Int} {rest : List Int} (h : want Q s = v :: rest) : valOf Q s = v := by
  unfold valOf
  rw [← List.head?_filter]
  unfold want at h
  cases hq : Q.filter fun x => x.1 == s with
  | nil => rw [hq] at h; cases h
  | cons x l =>
    rw [hq] at h
    simp only [List.map_cons, List.cons.injEq] at h
    simp [h.1]
theorem want_mem {Q : List Pd} {x : Pd} (h : x ∈ Q) : want Q x.1 ≠ [] := by
  intro hn
  have := want_nil_iff.1 hn
  have h2 := pends_iff.2 ⟨x.2, h⟩
  rw [this] at h2
  cases h2
theorem all_nil {Q : List Pd} (h : All3 Q) (h1 : want Q 10 = []) (h2 : want Q 41 = []) (h3 : want Q 50 = []) : Q = [] := by
  cases Q with
  | nil => rfl
  | cons x l =>
    have hm := want_mem (Q := x :: l) List.mem_cons_self
    rcases h x List.mem_cons_self with e | e | e
    · rw [e] at hm; exact absurd h1 hm
    · rw [e] at hm; exact absurd h2 hm
    · rw [e] at hm; exact absurd h3 hm
theorem both_sq (m : Nat) (Q : List Pd) : both (Sq m Q) 0 0 = Q := by
  show Q ++ [] = Q
  exact List.append_nil Q
theorem ok3_range {s : Int} (h : Ok3 s) : 1 ≤ s ∧ s ≤ 56 := by rcases h with rfl | rfl | rfl <;> omega
theorem next_zero (m : Nat) (Q : List Pd) (h : lowest Q (allM &&& (18446744073709551615 - m)) = 0) : nextS (Sq m Q) 0 = (((0, 0, 0), false), Sq m Q) := by
  unfold nextS
  rw [show isTh 0 = true by decide, show (0 : Int).toNat = 0 from rfl, sq_tk]
  simp only [Bool.not_true, Bool.false_eq_true, if_false]
  rw [show (0 : Int).toNat = 0 from rfl, both_sq, if_pos h]
theorem next_masked (Q : List Pd) (h : All3 Q) : nextS (Sq mK Q) 0 = (((0, 0, 0), false), Sq mK Q) := by
  refine next_zero mK Q ?_
  rw [mask_left]
  rcases lowest_spec Q nevM (fun x hx => (ok3_range (h x hx)).1) with ⟨h1, _⟩ | ⟨x, hx, _, hb, _⟩
  · exact h1
  · have h3 := h x hx
    have := (hasB_nev (ok3_range h3).1 (ok3_range h3).2).1 hb
    unfold Ok3 at h3
    omega
theorem next_nosq (m : Nat) : nextS (Sq m []) 0 = (((0, 0, 0), false), Sq m []) := next_zero m [] rfl
theorem next_want {Q : List Pd} (h : All3 Q) {s v : Int} (hs : Ok3 s) {rest : List Int} (hw : want Q s = v :: rest) (hl : ∀ r, Ok3 r → r < s → want Q r = []) :
    ∃ d, nextS (Sq 0 Q) 0 = (((s, v, d), true), Sq 0 (cut Q s)) ∧ want (cut Q s) s = rest ∧ (∀ r, r ≠ s → want (cut Q s) r = want Q r) ∧ All3 (cut Q s) ∧ (cut Q s).length ≤ Q.length := by
  have hp : pends Q s = true := by
    cases hq : pends Q s
    · rw [want_nil_iff.2 hq] at hw; cases hw
    · rfl
  obtain ⟨u, hu⟩ := pends_iff.1 hp
  have hlow : lowest Q (allM &&& (18446744073709551615 - 0)) = s := by
    rw [show allM &&& (18446744073709551615 - 0) = allM by decide]
    rcases lowest_spec Q allM (fun x hx => (ok3_range (h x hx)).1) with ⟨_, h2⟩ | ⟨x, hx, h1, _, h3⟩
    · have := h2 _ hu
      rw [hasB_all (ok3_range hs).1 (ok3_range hs).2] at this
      cases this
    · have hle := h3 _ hu (hasB_all (ok3_range hs).1 (ok3_range hs).2)
      rw [h1]
      rcases Int.lt_or_eq_of_le hle with hlt | he
      · exact absurd (hl x.1 (h x hx) hlt) (want_mem hx)
      · exact he
  refine ⟨does (Sq 0 Q) 0 s, ?_, by rw [want_cut, hw]; rfl, fun r hr => want_cut_other Q hr, fun x hx => h x (cut_sub hx), cut_len Q s⟩
  unfold nextS
  rw [show isTh 0 = true by decide, show (0 : Int).toNat = 0 from rfl, sq_tk]
  simp only [Bool.not_true, Bool.false_eq_true, if_false]
  rw [show (0 : Int).toNat = 0 from rfl, both_sq, hlow, if_neg (by have := ok3_range hs; omega)]
  have htk : takeS (Sq 0 Q) 0 0 s = (v, Sq 0 (cut Q s)) := by
    unfold takeS
    rw [show srcOf (Sq 0 Q) 0 0 s = 0 by
      unfold srcOf
      rw [show (Sq 0 Q).ls 0 = Q from rfl, hp, if_pos rfl]]
    rw [show (Sq 0 Q).ls 0 = Q from rfl, valOf_want hw]
    refine congrArg (Prod.mk v) ?_
    unfold Sq
    congr 1
    funext j
    by_cases hj : j = 0
    · subst hj; simp
    · rw [upd_other _ _ hj]; simp [hj]
  rw [htk]
end Go.Proofs.Ytbpihfphoniclaa
