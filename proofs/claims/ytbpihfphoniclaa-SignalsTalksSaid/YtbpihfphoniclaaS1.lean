/- The least signal of a list in a set: by the index of its first place, and as a number. -/
import Derived.Test.YtbpihfphoniclaaA4
namespace Go.Proofs.Ytbpihfphoniclaa
theorem firstK_spec (l : List Pd) (m : Nat) (k : Nat) (hk : k ≤ l.length) :
    (firstK l m k = -1 ∧ ∀ j, j < k → hasB m (l.getD j (0, 0)).1 = false) ∨
    ∃ i : Nat, firstK l m k = (i : Int) ∧ i < k ∧ hasB m (l.getD i (0, 0)).1 = true ∧ ∀ j, j < k → hasB m (l.getD j (0, 0)).1 = true → (l.getD i (0, 0)).1 ≤ (l.getD j (0, 0)).1 ∧ (j < i → (l.getD i (0, 0)).1 < (l.getD j (0, 0)).1) := by
  induction k with
  | zero => exact .inl ⟨rfl, fun j hj => absurd hj (by omega)⟩
  | succ k ih =>
    rw [firstK_succ]
    rcases ih (by omega) with ⟨h1, h2⟩ | ⟨i, h1, h2, h3, h4⟩
    · rw [h1]
      cases hh : hasB m (l.getD k (0, 0)).1 with
      | false =>
        refine .inl ⟨by simp, fun j hj => ?_⟩
        rcases Nat.lt_succ_iff_lt_or_eq.1 hj with h | rfl
        · exact h2 j h
        · exact hh
      | true =>
        refine .inr ⟨k, by simp, by omega, hh, fun j hj hj2 => ?_⟩
        rcases Nat.lt_succ_iff_lt_or_eq.1 hj with h | rfl
        · rw [h2 j h] at hj2; cases hj2
        · exact ⟨Int.le_refl _, fun h => absurd h (by omega)⟩
    · rw [h1]
      cases hh : hasB m (l.getD k (0, 0)).1 with
      | false =>
        refine .inr ⟨i, by simp, by omega, h3, fun j hj hj2 => ?_⟩
        rcases Nat.lt_succ_iff_lt_or_eq.1 hj with h | rfl
        · exact h4 j h hj2
        · rw [hh] at hj2; cases hj2
      | true =>
        have hn : ¬ ((i : Int) < 0) := by omega
        rw [Int.toNat_natCast]
        by_cases hlt : (l.getD k (0, 0)).1 < (l.getD i (0, 0)).1
        · rw [if_pos (by rw [decide_eq_true hlt]; simp)]
          refine .inr ⟨k, rfl, by omega, hh, fun j hj hj2 => ?_⟩
          rcases Nat.lt_succ_iff_lt_or_eq.1 hj with h | rfl
          · have := (h4 j h hj2).1
            exact ⟨by omega, fun _ => by omega⟩
          · exact ⟨Int.le_refl _, fun h => absurd h (by omega)⟩
        · rw [if_neg (by rw [decide_eq_false hlt, decide_eq_false hn]; simp)]
          refine .inr ⟨i, rfl, by omega, h3, fun j hj hj2 => ?_⟩
          rcases Nat.lt_succ_iff_lt_or_eq.1 hj with h | rfl
          · exact h4 j h hj2
          · exact ⟨by omega, fun h => absurd h (by omega)⟩
theorem mem_getD {l : List Pd} {x : Pd} (h : x ∈ l) : ∃ j, j < l.length ∧ l.getD j (0, 0) = x := by
  obtain ⟨j, hj, e⟩ := List.getElem_of_mem h
  exact ⟨j, hj, by rw [List.getD_eq_getElem?_getD, List.getElem?_eq_getElem hj]; exact e⟩
theorem getD_mem {l : List Pd} {j : Nat} (h : j < l.length) : l.getD j (0, 0) ∈ l := by rw [List.getD_eq_getElem?_getD, List.getElem?_eq_getElem h]; exact List.getElem_mem h
/-- What the least signal is. -/
theorem lowest_spec (l : List Pd) (m : Nat) (hs : ∀ x ∈ l, 1 ≤ x.1) :
    (lowest l m = 0 ∧ ∀ x ∈ l, hasB m x.1 = false) ∨ (∃ x ∈ l, lowest l m = x.1 ∧ hasB m x.1 = true ∧ ∀ y ∈ l, hasB m y.1 = true → x.1 ≤ y.1) := by
  have key : ∀ (l : List Pd) (a : Int) (seen : List Pd), (∀ x ∈ l, 1 ≤ x.1) → (∀ x ∈ seen, 1 ≤ x.1) → ((a = 0 ∧ ∀ x ∈ seen, hasB m x.1 = false) ∨ (∃ x ∈ seen, a = x.1 ∧ hasB m x.1 = true ∧ ∀ y ∈ seen, hasB m y.1 = true → x.1 ≤ y.1)) →
      ((l.foldl (fun a x => if hasB m x.1 && (a == 0 || decide (x.1 < a)) then x.1 else a) a = 0 ∧ ∀ x ∈ seen ++ l, hasB m x.1 = false) ∨
       (∃ x ∈ seen ++ l, l.foldl (fun a x => if hasB m x.1 && (a == 0 || decide (x.1 < a)) then x.1 else a) a = x.1 ∧ hasB m x.1 = true ∧ ∀ y ∈ seen ++ l, hasB m y.1 = true → x.1 ≤ y.1)) := by
    intro l
    induction l with
    | nil => intro a seen _ _ h; simpa using h
    | cons z l ih =>
      intro a seen h1 h2 h3
      have hz := h1 z List.mem_cons_self
      have := ih (if hasB m z.1 && (a == 0 || decide (z.1 < a)) then z.1 else a) (seen ++ [z]) (fun x hx => h1 x (List.mem_cons_of_mem _ hx))
        (fun x hx => by
          rcases List.mem_append.1 hx with h | h
          · exact h2 x h
          · obtain rfl : x = z := by simpa using h
            exact hz) ?_
      · simpa [List.append_assoc] using this
      · rcases h3 with ⟨rfl, h3⟩ | ⟨x, hx, rfl, hb, h3⟩
        · cases hh : hasB m z.1 with
          | false =>
            refine .inl ⟨by simp, fun x hx => ?_⟩
            rcases List.mem_append.1 hx with h | h
            · exact h3 x h
            · obtain rfl : x = z := by simpa using h
              exact hh
          | true =>
            refine .inr ⟨z, by simp, by simp, hh, fun y hy hy2 => ?_⟩
            rcases List.mem_append.1 hy with h | h
            · rw [h3 y h] at hy2; cases hy2
            · obtain rfl : y = z := by simpa using h
              exact Int.le_refl _
        · have hx1 := h2 x hx
          have hne : (x.1 == 0) = false := by simp; omega
          rw [hne]
          cases hh : hasB m z.1 with
          | false =>
            refine .inr ⟨x, List.mem_append_left _ hx, by simp, hb, fun y hy hy2 => ?_⟩
            rcases List.mem_append.1 hy with h | h
            · exact h3 y h hy2
            · obtain rfl : y = z := by simpa using h
              rw [hh] at hy2; cases hy2
          | true =>
            by_cases hlt : z.1 < x.1
            · rw [decide_eq_true hlt]
              refine .inr ⟨z, by simp, by simp, hh, fun y hy hy2 => ?_⟩
              rcases List.mem_append.1 hy with h | h
              · have := h3 y h hy2; omega
              · obtain rfl : y = z := by simpa using h
                exact Int.le_refl _
            · rw [decide_eq_false hlt]
              refine .inr ⟨x, List.mem_append_left _ hx, by simp, hb, fun y hy hy2 => ?_⟩
              rcases List.mem_append.1 hy with h | h
              · exact h3 y h hy2
              · obtain rfl : y = z := by simpa using h
                omega
  have := key l 0 [] hs (fun x hx => by simp at hx) (.inl ⟨rfl, fun x hx => by simp at hx⟩)
  simpa [lowest] using this
theorem lowest_eq {l : List Pd} {m : Nat} (hs : ∀ x ∈ l, 1 ≤ x.1) {x : Pd} (hx : x ∈ l) (hb : hasB m x.1 = true) (hmin : ∀ y ∈ l, hasB m y.1 = true → x.1 ≤ y.1) : lowest l m = x.1 := by
  rcases lowest_spec l m hs with ⟨_, h⟩ | ⟨z, hz, h1, h2, h3⟩
  · rw [h x hx] at hb; cases hb
  · rw [h1]
    have a := h3 x hx hb
    have b := hmin z hz h2
    omega
theorem lowest_none {l : List Pd} {m : Nat} (hs : ∀ x ∈ l, 1 ≤ x.1) (hn : ∀ x ∈ l, hasB m x.1 = false) : lowest l m = 0 := by
  rcases lowest_spec l m hs with ⟨h, _⟩ | ⟨z, hz, _, h2, _⟩
  · exact h
  · rw [hn z hz] at h2; cases h2
/-- The first place of a signal in a list. -/
theorem cut_at {l : List Pd} {i : Nat} (hi : i < l.length) (hn : ∀ j, j < i → (l.getD j (0, 0)).1 ≠ (l.getD i (0, 0)).1) :
    cut l (l.getD i (0, 0)).1 = l.take i ++ l.drop (i + 1) ∧ valOf l (l.getD i (0, 0)).1 = (l.getD i (0, 0)).2 ∧ pends l (l.getD i (0, 0)).1 = true := by
  have e : l = l.take i ++ l.getD i (0, 0) :: l.drop (i + 1) := by
    rw [List.getD_eq_getElem?_getD, List.getElem?_eq_getElem hi]
    simp
  have hpre : ∀ x ∈ l.take i, (x.1 == (l.getD i (0, 0)).1) = false := by
    intro x hx
    obtain ⟨j, hj, rfl⟩ := List.getElem_of_mem hx
    rw [List.length_take] at hj
    rw [List.getElem_take]
    have := hn j (by omega)
    rw [List.getD_eq_getElem?_getD, List.getElem?_eq_getElem (show j < l.length by omega)] at this
    simpa using this
  have hmem := getD_mem hi
  generalize l.getD i (0, 0) = y at *
  have hpre' : ∀ x ∈ l.take i, ¬ (x.1 == y.1) = true := fun x hx => by rw [hpre x hx]; simp
  refine ⟨?_, ?_, ?_⟩
  · unfold cut
    rw [show l.eraseP (fun x => x.1 == y.1) = (l.take i ++ y :: l.drop (i + 1)).eraseP (fun x => x.1 == y.1) by rw [← e]]
    rw [List.eraseP_append_right _ hpre']
    simp
  · unfold valOf
    rw [show l.find? (fun x => x.1 == y.1) = (l.take i ++ y :: l.drop (i + 1)).find? (fun x => x.1 == y.1) by rw [← e]]
    rw [List.find?_append, List.find?_eq_none.2 hpre']
    simp
  · unfold pends
    exact List.any_eq_true.2 ⟨y, hmem, by simp⟩
theorem pends_none {l : List Pd} {s : Int} (h : ∀ x ∈ l, x.1 ≠ s) : pends l s = false := by
  unfold pends
  rw [List.any_eq_false]
  intro x hx
  simpa using h x hx
/-- The three ways of `take`. -/
theorem take_ways (S : St) (th p m : Nat) (h1 : ∀ x ∈ S.ls th, 1 ≤ x.1 ∧ x.1 ≤ 56) (h2 : ∀ x ∈ S.ls (256 + p), 1 ≤ x.1 ∧ x.1 ≤ 56) :
    (firstK (S.ls th) m (S.ls th).length = -1 ∧ firstK (S.ls (256 + p)) m (S.ls (256 + p)).length = -1 ∧ lowest (both S th p) m = 0) ∨
    (∃ i : Nat, i < (S.ls th).length ∧ firstK (S.ls th) m (S.ls th).length = (i : Int) ∧ (firstK (S.ls (256 + p)) m (S.ls (256 + p)).length = -1 ∨ ∃ k : Nat, k < (S.ls (256 + p)).length ∧ firstK (S.ls (256 + p)) m (S.ls (256 + p)).length = (k : Int) ∧ ¬ ((S.ls (256 + p)).getD k (0, 0)).1 < ((S.ls th).getD i (0, 0)).1) ∧
      lowest (both S th p) m = ((S.ls th).getD i (0, 0)).1 ∧ lowest (both S th p) m ≠ 0 ∧ takeS S th p (lowest (both S th p) m) = (((S.ls th).getD i (0, 0)).2, { S with ls := upd S.ls th ((S.ls th).take i ++ (S.ls th).drop (i + 1)) })) ∨
    (∃ k : Nat, k < (S.ls (256 + p)).length ∧ firstK (S.ls (256 + p)) m (S.ls (256 + p)).length = (k : Int) ∧ (firstK (S.ls th) m (S.ls th).length = -1 ∨ ∃ i : Nat, i < (S.ls th).length ∧ firstK (S.ls th) m (S.ls th).length = (i : Int) ∧ ((S.ls (256 + p)).getD k (0, 0)).1 < ((S.ls th).getD i (0, 0)).1) ∧
      lowest (both S th p) m = ((S.ls (256 + p)).getD k (0, 0)).1 ∧ lowest (both S th p) m ≠ 0 ∧ takeS S th p (lowest (both S th p) m) = (((S.ls (256 + p)).getD k (0, 0)).2, { S with ls := upd S.ls (256 + p) ((S.ls (256 + p)).take k ++ (S.ls (256 + p)).drop (k + 1)) })) := by
  have hb : ∀ x ∈ both S th p, 1 ≤ x.1 := by
    intro x hx
    rcases List.mem_append.1 hx with h | h
    · exact (h1 x h).1
    · exact (h2 x h).1
  have none1 : (∀ j, j < (S.ls th).length → hasB m ((S.ls th).getD j (0, 0)).1 = false) → ∀ x ∈ S.ls th, hasB m x.1 = false := fun h x hx => by obtain ⟨j, hj, rfl⟩ := mem_getD hx; exact h j hj
  have none2 : (∀ j, j < (S.ls (256 + p)).length → hasB m ((S.ls (256 + p)).getD j (0, 0)).1 = false) → ∀ x ∈ S.ls (256 + p), hasB m x.1 = false := fun h x hx => by obtain ⟨j, hj, rfl⟩ := mem_getD hx; exact h j hj
  have fromOwn : ∀ i : Nat, i < (S.ls th).length → hasB m ((S.ls th).getD i (0, 0)).1 = true → (∀ j, j < (S.ls th).length → hasB m ((S.ls th).getD j (0, 0)).1 = true → ((S.ls th).getD i (0, 0)).1 ≤ ((S.ls th).getD j (0, 0)).1 ∧ (j < i → ((S.ls th).getD i (0, 0)).1 < ((S.ls th).getD j (0, 0)).1)) →
      (∀ x ∈ S.ls (256 + p), hasB m x.1 = true → ((S.ls th).getD i (0, 0)).1 ≤ x.1) →
      lowest (both S th p) m = ((S.ls th).getD i (0, 0)).1 ∧ lowest (both S th p) m ≠ 0 ∧ takeS S th p (lowest (both S th p) m) = (((S.ls th).getD i (0, 0)).2, { S with ls := upd S.ls th ((S.ls th).take i ++ (S.ls th).drop (i + 1)) }) := by
    intro i hi hhas hmin ho
    have e : lowest (both S th p) m = ((S.ls th).getD i (0, 0)).1 := by
      refine lowest_eq hb (List.mem_append_left _ (getD_mem hi)) hhas fun y hy hy2 => ?_
      rcases List.mem_append.1 hy with h | h
      · obtain ⟨j, hj, rfl⟩ := mem_getD h
        exact (hmin j hj hy2).1
      · exact ho y h hy2
    obtain ⟨c1, c2, c3⟩ := cut_at hi (fun j hj he => by
      have hj2 : j < (S.ls th).length := by omega
      have := (hmin j hj2 (by rw [he]; exact hhas)).2 hj
      omega)
    refine ⟨e, by rw [e]; have := (h1 _ (getD_mem hi)).1; omega, ?_⟩
    rw [e]
    unfold takeS srcOf
    rw [c3]
    simp only [if_true]
    rw [c1, c2]
  have fromOther : ∀ k : Nat, k < (S.ls (256 + p)).length → hasB m ((S.ls (256 + p)).getD k (0, 0)).1 = true → (∀ j, j < (S.ls (256 + p)).length → hasB m ((S.ls (256 + p)).getD j (0, 0)).1 = true → ((S.ls (256 + p)).getD k (0, 0)).1 ≤ ((S.ls (256 + p)).getD j (0, 0)).1 ∧ (j < k → ((S.ls (256 + p)).getD k (0, 0)).1 < ((S.ls (256 + p)).getD j (0, 0)).1)) →
      (∀ x ∈ S.ls th, hasB m x.1 = true → ((S.ls (256 + p)).getD k (0, 0)).1 < x.1) →
      lowest (both S th p) m = ((S.ls (256 + p)).getD k (0, 0)).1 ∧ lowest (both S th p) m ≠ 0 ∧ takeS S th p (lowest (both S th p) m) = (((S.ls (256 + p)).getD k (0, 0)).2, { S with ls := upd S.ls (256 + p) ((S.ls (256 + p)).take k ++ (S.ls (256 + p)).drop (k + 1)) }) := by
    intro k hk hhas hmin ho
    have e : lowest (both S th p) m = ((S.ls (256 + p)).getD k (0, 0)).1 := by
      refine lowest_eq hb (List.mem_append_right _ (getD_mem hk)) hhas fun y hy hy2 => ?_
      rcases List.mem_append.1 hy with h | h
      · exact Int.le_of_lt (ho y h hy2)
      · obtain ⟨j, hj, rfl⟩ := mem_getD h
        exact (hmin j hj hy2).1
    obtain ⟨c1, c2, c3⟩ := cut_at hk (fun j hj he => by
      have hj2 : j < (S.ls (256 + p)).length := by omega
      have := (hmin j hj2 (by rw [he]; exact hhas)).2 hj
      omega)
    have hpn : pends (S.ls th) ((S.ls (256 + p)).getD k (0, 0)).1 = false := pends_none fun x hx he => by
      have := ho x hx (by rw [he]; exact hhas)
      omega
    refine ⟨e, by rw [e]; have := (h2 _ (getD_mem hk)).1; omega, ?_⟩
    rw [e]
    unfold takeS srcOf
    rw [hpn]
    simp only [Bool.false_eq_true, if_false]
    rw [c1, c2]
  rcases firstK_spec (S.ls th) m _ (Nat.le_refl _) with ⟨a1, a2⟩ | ⟨i, a1, a2, a3, a4⟩
  · rcases firstK_spec (S.ls (256 + p)) m _ (Nat.le_refl _) with ⟨b1, b2⟩ | ⟨k, b1, b2, b3, b4⟩
    · refine .inl ⟨a1, b1, lowest_none hb fun x hx => ?_⟩
      rcases List.mem_append.1 hx with h | h
      · exact none1 a2 x h
      · exact none2 b2 x h
    · exact .inr (.inr ⟨k, b2, b1, .inl a1, fromOther k b2 b3 b4 fun x hx hx2 => by rw [none1 a2 x hx] at hx2; cases hx2⟩)
  · rcases firstK_spec (S.ls (256 + p)) m _ (Nat.le_refl _) with ⟨b1, b2⟩ | ⟨k, b1, b2, b3, b4⟩
    · exact .inr (.inl ⟨i, a2, a1, .inl b1, fromOwn i a2 a3 a4 fun x hx hx2 => by rw [none2 b2 x hx] at hx2; cases hx2⟩)
    · by_cases hlt : ((S.ls (256 + p)).getD k (0, 0)).1 < ((S.ls th).getD i (0, 0)).1
      · refine .inr (.inr ⟨k, b2, b1, .inr ⟨i, a2, a1, hlt⟩, fromOther k b2 b3 b4 fun x hx hx2 => ?_⟩)
        obtain ⟨j, hj, rfl⟩ := mem_getD hx
        have := (a4 j hj hx2).1
        omega
      · refine .inr (.inl ⟨i, a2, a1, .inr ⟨k, b2, b1, hlt⟩, fromOwn i a2 a3 a4 fun x hx hx2 => ?_⟩)
        obtain ⟨j, hj, rfl⟩ := mem_getD hx
        have := (b4 j hj hx2).1
        omega
end Go.Proofs.Ytbpihfphoniclaa
