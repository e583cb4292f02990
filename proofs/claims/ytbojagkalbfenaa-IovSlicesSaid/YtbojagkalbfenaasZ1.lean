import Derived.Test.YtbojagkalbfenaasJ1
namespace Go.Proofs.Ytbojagkalbfenaa
set_option linter.unusedVariables false
set_option linter.unusedSimpArgs false
open Go.RowKit PIovSlices Go.Proofs.YtbojagkalbfenaaW.PrintWords

/-- A slice of a slice is a slice. -/
theorem sliced_sliced : ∀ (l : List (Int × Int)) (a b c d : Int), (∀ p ∈ l, 0 ≤ p.2) → 0 ≤ a → 0 ≤ c → c ≤ b → slicedL (slicedL l a b) c d = slicedL l (a + c) (min d (b - c))
  | [], a, b, c, d, _, _, _, _ => by simp [slicedL]
  | p :: r, a, b, c, d, h, ha, hc, hcb => by
    have hp := h p List.mem_cons_self
    have hr : ∀ q ∈ r, 0 ≤ q.2 := fun q hq => h q (List.mem_cons_of_mem _ hq)
    by_cases hm : min d (b - c) ≤ 0
    · rw [slicedL_none _ _ hm]
      by_cases hd : d ≤ 0
      · exact slicedL_none _ _ hd
      · simp only [slicedL]
        split
        · rfl
        · split
          · rw [sliced_sliced r (a - p.2) b c d hr (by omega) hc hcb, slicedL_none _ _ hm]
          · simp only [slicedL]
            rw [if_neg hd, if_pos (by omega), sliced_sliced r 0 _ _ d hr (by omega) (by omega) (by omega), slicedL_none _ _ (by omega)]
    · simp only [slicedL]
      rw [if_neg (show ¬ b ≤ 0 by omega), if_neg hm]
      by_cases hpa : p.2 ≤ a
      · rw [if_pos hpa, if_pos (show p.2 ≤ a + c by omega), sliced_sliced r (a - p.2) b c d hr (by omega) hc hcb, show a - p.2 + c = a + c - p.2 by omega]
      · rw [if_neg hpa]
        simp only [slicedL]
        rw [if_neg (show ¬ d ≤ 0 by omega)]
        by_cases hk : min (p.2 - a) b ≤ c
        · rw [if_pos hk, if_pos (show p.2 ≤ a + c by omega), sliced_sliced r 0 _ _ d hr (by omega) (by omega) (by omega)]
          congr 1 <;> omega
        · rw [if_neg hk, if_neg (show ¬ p.2 ≤ a + c by omega), sliced_sliced r 0 _ _ _ hr (by omega) (by omega) (by omega)]
          congr 1
          · rw [Prod.mk.injEq]; constructor <;> omega
          · congr 1; omega
theorem sumL_nn : ∀ {l : List (Int × Int)}, (∀ p ∈ l, 0 ≤ p.2) → 0 ≤ sumL l
  | [], _ => by simp [sumL]
  | p :: r, h => by
    have := sumL_nn (l := r) (fun q hq => h q (List.mem_cons_of_mem _ hq))
    have := h p List.mem_cons_self
    simp only [sumL]; omega
theorem sum_sliced : ∀ (l : List (Int × Int)) (a b : Int), (∀ p ∈ l, 0 ≤ p.2) → 0 ≤ a → 0 ≤ b → a + b ≤ sumL l → sumL (slicedL l a b) = b
  | [], a, b, _, h0, h1, h2 => by simp [slicedL, sumL] at h2 ⊢; omega
  | p :: r, a, b, h, h0, h1, h2 => by
    have hp := h p List.mem_cons_self
    have hr : ∀ q ∈ r, 0 ≤ q.2 := fun q hq => h q (List.mem_cons_of_mem _ hq)
    have hs := sumL_nn hr
    simp only [sumL] at h2
    simp only [slicedL]
    split
    · simp only [sumL]; omega
    · split
      · exact sum_sliced r _ b hr (by omega) h1 (by omega)
      · simp only [sumL]
        rw [sum_sliced r 0 _ hr (by omega) (by omega) (by omega)]
        omega
/-- The parts of a slice end where the list's parts end. -/
theorem sliced_ok {l : List (Int × Int)} (h : okP l) (he : ∀ p ∈ l, p.1 + p.2 ≤ 1099511627776) : ∀ (a b : Int), 0 ≤ a → okP (slicedL l a b) ∧ (∀ p ∈ slicedL l a b, p.1 + p.2 ≤ 1099511627776) ∧ ∀ p ∈ slicedL l a b, 1 ≤ p.2 := by
  induction l with
  | nil => intro a b _; simp [slicedL, okP]
  | cons p r ih =>
    intro a b ha
    have hp := h p List.mem_cons_self
    have hpe := he p List.mem_cons_self
    have hr : okP r := fun q hq => h q (List.mem_cons_of_mem _ hq)
    have hre : ∀ q ∈ r, q.1 + q.2 ≤ 1099511627776 := fun q hq => he q (List.mem_cons_of_mem _ hq)
    simp only [slicedL]
    split
    · simp [okP]
    · split
      · exact ih hr hre _ _ (by omega)
      · obtain ⟨i1, i2, i3⟩ := ih hr hre 0 (b - min (p.2 - a) b) (by omega)
        refine ⟨fun q hq => ?_, fun q hq => ?_, fun q hq => ?_⟩
        all_goals
          rcases List.mem_cons.1 hq with rfl | hq
          · simp only; omega
        · exact i1 q hq
        · exact i2 q hq
        · exact i3 q hq
theorem sumL_join (xs : List (Int × Int)) : ∀ out : List (Int × Int), sumL (xs.foldl joinStep out) = sumL out + sumL xs := by
  induction xs with
  | nil => intro out; simp [sumL]
  | cons x r ih =>
    intro out
    simp only [List.foldl_cons, ih, sumL]
    rcases snoc_cases out with rfl | ⟨o, q, rfl⟩
    · simp [joinStep_nil, sumL]
    · rw [joinStep_snoc]
      split <;> simp only [sumL_append, sumL] <;> omega
/-- Joining does not change the bytes. -/
theorem piece_join (ds : List Value) (q x : Int × Int) (h0 : 0 ≤ q.1) (h1 : 0 ≤ q.2) (h2 : 0 ≤ x.2) (e : q.1 + q.2 = x.1) : piece ds (q.1, q.2 + x.2) = piece ds q ++ piece ds x := by
  simp only [piece]
  rw [show (q.2 + x.2).toNat = q.2.toNat + x.2.toNat by omega, List.take_add, List.drop_drop, show q.1.toNat + q.2.toNat = x.1.toNat by omega]
theorem gather_join (ds : List Value) (xs : List (Int × Int)) : ∀ out : List (Int × Int), (∀ x ∈ xs, 0 ≤ x.1 ∧ 0 ≤ x.2) → (∀ x ∈ out, 0 ≤ x.1 ∧ 0 ≤ x.2) → gatherL ds (xs.foldl joinStep out) = gatherL ds out ++ gatherL ds xs := by
  induction xs with
  | nil => intro out _ _; simp [gatherL]
  | cons x r ih =>
    intro out hx ho
    have h0 := hx x List.mem_cons_self
    have hc : gatherL ds (x :: r) = piece ds x ++ gatherL ds r := by simp [gatherL]
    rw [List.foldl_cons, hc]
    rcases snoc_cases out with rfl | ⟨o, q, rfl⟩
    · rw [joinStep_nil, ih _ (fun y hy => hx y (List.mem_cons_of_mem _ hy)) (fun y hy => by rw [List.mem_singleton.1 hy]; exact h0)]
      simp [gatherL]
    · have hq := ho q (by simp)
      rw [joinStep_snoc]
      split
      · rename_i e
        rw [ih _ (fun y hy => hx y (List.mem_cons_of_mem _ hy)) (fun y hy => by
          rcases List.mem_append.1 hy with h | h
          · exact ho y (by simp [h])
          · rw [List.mem_singleton.1 h]; simp only; omega), gatherL_snoc, gatherL_snoc, piece_join ds q x hq.1 hq.2 h0.2 e]
        simp
      · rw [ih _ (fun y hy => hx y (List.mem_cons_of_mem _ hy)) (fun y hy => by
          rcases List.mem_append.1 hy with h | h
          · exact ho y h
          · rw [List.mem_singleton.1 h]; exact h0), gatherL_snoc]
        simp
theorem inside_join (n : Nat) (xs : List (Int × Int)) : ∀ out : List (Int × Int), (∀ x ∈ xs, 0 ≤ x.2) → insideB n (xs.foldl joinStep out) = (insideB n out && insideB n xs) := by
  induction xs with
  | nil => intro out _; simp [insideB]
  | cons x r ih =>
    intro out hx
    have h0 := hx x List.mem_cons_self
    rw [List.foldl_cons, ih _ (fun y hy => hx y (List.mem_cons_of_mem _ hy))]
    have hc : insideB n (x :: r) = (decide (x.1 + x.2 ≤ n) && insideB n r) := by simp [insideB]
    rw [hc]
    rcases snoc_cases out with rfl | ⟨o, q, rfl⟩
    · rw [joinStep_nil]; simp [insideB]
    · rw [joinStep_snoc]
      split
      · rename_i e
        rw [insideB_snoc, insideB_snoc, ← Bool.and_assoc (insideB n o && decide (q.1 + q.2 ≤ ↑n))]
        congr 1
        rw [Bool.and_assoc]
        congr 1
        rw [← Bool.decide_and]
        congr 1
        rw [eq_iff_iff]
        simp only
        omega
      · rw [insideB_snoc, Bool.and_assoc]
end Go.Proofs.Ytbojagkalbfenaa
