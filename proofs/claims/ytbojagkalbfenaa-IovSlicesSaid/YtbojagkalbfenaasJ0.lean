import Derived.Test.YtbojagkalbfenaasS1
namespace Go.Proofs.Ytbojagkalbfenaa
open Go.RowKit PIovSlices Go.Proofs.YtbojagkalbfenaaW.PrintWords

/-- One part more, joined to the last one where they are adjacent. -/
def joinStep (out : List (Int × Int)) (p : Int × Int) : List (Int × Int) :=
  match out.getLast? with
  | some q => if q.1 + q.2 = p.1 then out.dropLast ++ [(q.1, q.2 + p.2)] else out ++ [p]
  | none => [p]
def joinL (xs : List (Int × Int)) : List (Int × Int) := xs.foldl joinStep []
theorem joinL_snoc (pre : List (Int × Int)) (x : Int × Int) : joinL (pre ++ [x]) = joinStep (joinL pre) x := by simp [joinL]
theorem joinStep_nil (p : Int × Int) : joinStep [] p = [p] := rfl
theorem joinStep_snoc (o : List (Int × Int)) (q p : Int × Int) : joinStep (o ++ [q]) p = if q.1 + q.2 = p.1 then o ++ [(q.1, q.2 + p.2)] else o ++ [q] ++ [p] := by
  simp [joinStep]
theorem snoc_cases (l : List (Int × Int)) : l = [] ∨ ∃ o q, l = o ++ [q] := by
  rcases List.eq_nil_or_concat l with h | ⟨o, q, h⟩
  · exact .inl h
  · exact .inr ⟨o, q, by simpa using h⟩
theorem joinStep_length (out : List (Int × Int)) (p : Int × Int) : (joinStep out p).length ≤ out.length + 1 := by
  rcases snoc_cases out with rfl | ⟨o, q, rfl⟩
  · simp [joinStep_nil]
  · rw [joinStep_snoc]; split <;> simp
theorem fold_length (xs : List (Int × Int)) : ∀ out : List (Int × Int), (xs.foldl joinStep out).length ≤ out.length + xs.length := by
  induction xs with
  | nil => intro out; simp
  | cons x r ih =>
    intro out
    have h1 := ih (joinStep out x)
    have h2 := joinStep_length out x
    simp only [List.foldl_cons, List.length_cons]
    omega
theorem joinL_length (xs : List (Int × Int)) : (joinL xs).length ≤ xs.length := by simpa [joinL] using fold_length xs []
/-- Each part's address is one of the list's, and its length is not more than all of them. -/
theorem fold_bound {M : Int} (xs : List (Int × Int)) : ∀ (out : List (Int × Int)) (b : Int), 0 ≤ b → (∀ x ∈ xs, (0 ≤ x.1 ∧ x.1 ≤ M) ∧ 0 ≤ x.2 ∧ x.2 ≤ 4096) → (∀ q ∈ out, (0 ≤ q.1 ∧ q.1 ≤ M) ∧ 0 ≤ q.2 ∧ q.2 ≤ b) →
    ∀ q ∈ xs.foldl joinStep out, (0 ≤ q.1 ∧ q.1 ≤ M) ∧ 0 ≤ q.2 ∧ q.2 ≤ b + 4096 * xs.length := by
  induction xs with
  | nil => intro out b _ _ ho q hq; simpa using ho q (by simpa using hq)
  | cons x r ih =>
    intro out b hb hx ho q hq
    have h0 := hx x List.mem_cons_self
    have := ih (joinStep out x) (b + 4096) (by omega) (fun y hy => hx y (List.mem_cons_of_mem _ hy)) ?_ q hq
    · simp only [List.length_cons]; omega
    · intro y hy
      rcases snoc_cases out with rfl | ⟨o, z, rfl⟩
      · rw [joinStep_nil, List.mem_singleton] at hy
        subst hy
        omega
      · rw [joinStep_snoc] at hy
        have hz := ho z (by simp)
        split at hy
        · rcases List.mem_append.1 hy with h | h
          · have := ho y (by simp [h]); omega
          · rw [List.mem_singleton] at h; subst h; simp only; omega
        · rcases List.mem_append.1 hy with h | h
          · have := ho y h; omega
          · rw [List.mem_singleton] at h; subst h; omega
theorem joinL_bound {M : Int} {xs : List (Int × Int)} (h : ∀ x ∈ xs, (0 ≤ x.1 ∧ x.1 ≤ M) ∧ 0 ≤ x.2 ∧ x.2 ≤ 4096) : ∀ q ∈ joinL xs, (0 ≤ q.1 ∧ q.1 ≤ M) ∧ 0 ≤ q.2 ∧ q.2 ≤ 4096 * xs.length := by
  intro q hq
  have := fold_bound xs [] 0 (by omega) h (by simp) q hq
  omega
theorem pcs_length (l : List (Int × Int)) : (pcs l).length = l.length * 2 := by
  induction l with
  | nil => rfl
  | cons p l ih => simp only [pcs, List.flatMap_cons, List.length_append, List.length_cons, List.length_nil] at ih ⊢; rw [ih]; omega
theorem pcs_last (o : List (Int × Int)) (q : Int × Int) : (pcs (o ++ [q]))[o.length * 2]? = some (.int .i64 q.1) ∧ (pcs (o ++ [q]))[o.length * 2 + 1]? = some (.int .i64 q.2) := by
  rw [pcs_snoc]
  constructor
  · rw [List.getElem?_append_right (by rw [pcs_length]; omega), pcs_length]; simp
  · rw [List.getElem?_append_right (by rw [pcs_length]; omega), pcs_length, show o.length * 2 + 1 - o.length * 2 = 1 by omega]; rfl
theorem pcs_set (o : List (Int × Int)) (q : Int × Int) (y : Int) : (pcs (o ++ [q])).set (o.length * 2 + 1) (.int .i64 y) = pcs (o ++ [(q.1, y)]) := by
  rw [pcs_snoc, pcs_snoc, List.set_append_right _ _ (by rw [pcs_length]; omega), pcs_length, show o.length * 2 + 1 - o.length * 2 = 1 by omega]
  rfl
theorem own_set {w : World} {base : Nat} {e : TypeId} {size n g cap : Nat} {xs : List Value} (h : w.ownsRow base e size (.slice (some ⟨g, 0, none⟩) n cap) n xs) (j : Nat) (hj : j < n * size) (u : Value) :
    (w.setCell ⟨g, j, none⟩ u).ownsRow base e size (.slice (some ⟨g, 0, none⟩) n cap) n (xs.set j u) := by
  obtain ⟨h1, h2⟩ := h
  refine ⟨by rw [List.length_set]; exact h1, ?_⟩
  rcases h2 with ⟨h2, _⟩ | ⟨g', cap', cur, he, hb, hh, hn, hm, hs, ht⟩
  · cases h2
  · injection he with ha _ hc
    injection ha with ha
    injection ha with hg
    subst hg; subst hc
    refine .inr ⟨g, cap, cur.setIfInBounds j u, rfl, hb, blk_set hh j u, hn, hm, by rw [Array.size_setIfInBounds]; exact hs, ?_⟩
    rw [Array.toList_setIfInBounds, List.take_set, ht]
end Go.Proofs.Ytbojagkalbfenaa
