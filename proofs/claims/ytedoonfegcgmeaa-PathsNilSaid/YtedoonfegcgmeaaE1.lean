/- A clean path is left as it is. -/
import Derived.Test.YtedoonfegcgmeaaB6
namespace Go.Proofs.Ytedoonfegcgmeaa
set_option linter.unusedVariables false
theorem parts_noslash (a : Bs) : ∀ p ∈ parts a, (47 : UInt8) ∉ p := by
  induction a with
  | nil => intro p hp; simp [parts] at hp; subst hp; simp
  | cons b l ih =>
    intro p hp
    rw [parts_cons] at hp
    split at hp
    · rcases List.mem_cons.1 hp with rfl | hp
      · simp
      · exact ih p hp
    · rename_i hb
      cases hq : parts l with
      | nil => rw [hq] at hp; simp at hp; subst hp; simp; exact fun h => hb h.symm
      | cons q qs =>
        rw [hq] at hp
        rcases List.mem_cons.1 hp with rfl | hp
        · have := ih q (by rw [hq]; exact List.mem_cons_self)
          simp only [List.mem_cons, not_or]
          exact ⟨fun h => hb h.symm, this⟩
        · exact ih p (by rw [hq]; exact List.mem_cons_of_mem _ hp)
theorem parts_mem (a : Bs) : ∀ p ∈ parts a, ∀ b ∈ p, b ∈ a := by
  induction a with
  | nil => intro p hp; simp [parts] at hp; subst hp; simp
  | cons c l ih =>
    intro p hp b hb
    rw [parts_cons] at hp
    split at hp
    · rcases List.mem_cons.1 hp with rfl | hp
      · cases hb
      · exact List.mem_cons_of_mem _ (ih p hp b hb)
    · cases hq : parts l with
      | nil => rw [hq] at hp; simp at hp; subst hp; simp at hb; subst hb; exact List.mem_cons_self
      | cons q qs =>
        rw [hq] at hp
        rcases List.mem_cons.1 hp with rfl | hp
        · rcases List.mem_cons.1 hb with rfl | hb
          · exact List.mem_cons_self
          · exact List.mem_cons_of_mem _ (ih q (by rw [hq]; exact List.mem_cons_self) b hb)
        · exact List.mem_cons_of_mem _ (ih p (by rw [hq]; exact List.mem_cons_of_mem _ hp) b hb)
/-- The lengths, a slash ahead of each. -/
def wid (l : List Bs) : Nat := (l.map fun x => x.length + 1).sum
theorem wid_cons (x : Bs) (l : List Bs) : wid (x :: l) = x.length + 1 + wid l := by simp [wid]
theorem wid_sub {l m : List Bs} (h : l.Sublist m) : wid l ≤ wid m := by
  induction h with
  | slnil => exact Nat.le_refl _
  | cons a h ih => rw [wid_cons]; omega
  | cons_cons a h ih => rw [wid_cons, wid_cons]; omega
theorem parts_wid (a : Bs) : wid (parts a) = a.length + 1 := by
  induction a with
  | nil => rfl
  | cons b l ih =>
    rw [parts_cons]
    split
    · rw [wid_cons, ih]; simp; omega
    · cases hq : parts l with
      | nil => rw [parts_cut] at hq; cases hq
      | cons q qs =>
        rw [hq, wid_cons] at ih
        simp only [wid_cons, List.length_cons] at ih ⊢
        omega
theorem stk_sublist (l : List Bs) : (stk l).Sublist l := by
  have key : ∀ (l acc pre : List Bs), acc.Sublist pre → (l.foldl stepC acc).Sublist (pre ++ l) := by
    intro l
    induction l with
    | nil => intro acc pre h; simpa using h
    | cons x l ih =>
      intro acc pre h
      rw [List.foldl_cons, show pre ++ x :: l = (pre ++ [x]) ++ l by simp]
      refine ih _ _ ?_
      unfold stepC
      split
      · exact h.trans (List.sublist_append_left _ _)
      · split
        · exact ((List.dropLast_sublist acc).trans h).trans (List.sublist_append_left _ _)
        · exact h.append (List.Sublist.refl _)
  simpa [stk] using key l [] [] (List.Sublist.refl _)
theorem stk_plain (l : List Bs) : ∀ x ∈ stk l, x ≠ [46] ∧ x ≠ [46, 46] := by
  have key : ∀ (l acc : List Bs), (∀ x ∈ acc, x ≠ [46] ∧ x ≠ [46, 46]) → ∀ x ∈ l.foldl stepC acc, x ≠ [46] ∧ x ≠ [46, 46] := by
    intro l
    induction l with
    | nil => intro acc h; exact h
    | cons y l ih =>
      intro acc h
      rw [List.foldl_cons]
      refine ih _ ?_
      unfold stepC
      split
      · exact h
      · rename_i h1
        split
        · exact fun x hx => h x ((List.dropLast_sublist acc).subset hx)
        · rename_i h2
          intro x hx
          rcases List.mem_append.1 hx with hx | hx
          · exact h x hx
          · simp at hx; subst hx; exact ⟨h1, h2⟩
  exact key l [] (by simp)
theorem stk_fix (l : List Bs) (h : ∀ x ∈ l, x ≠ [46] ∧ x ≠ [46, 46]) : stk l = l := by
  have key : ∀ (l acc : List Bs), (∀ x ∈ l, x ≠ [46] ∧ x ≠ [46, 46]) → l.foldl stepC acc = acc ++ l := by
    intro l
    induction l with
    | nil => intro acc _; simp
    | cons y l ih =>
      intro acc h
      have hy := h y List.mem_cons_self
      rw [List.foldl_cons, ih _ fun x hx => h x (List.mem_cons_of_mem _ hx)]
      unfold stepC
      rw [if_neg hy.1, if_neg hy.2]
      simp
  simpa [stk] using key l [] h
theorem parts_one (x : Bs) (h : (47 : UInt8) ∉ x) : parts x = [x] := by
  induction x with
  | nil => rfl
  | cons b l ih =>
    have h1 : b ≠ 47 := fun e => h (by rw [e]; exact List.mem_cons_self)
    rw [parts_cons, if_neg h1, ih fun e => h (List.mem_cons_of_mem _ e)]
theorem parts_app (x r : Bs) (h : (47 : UInt8) ∉ x) : parts (x ++ 47 :: r) = x :: parts r := by
  induction x with
  | nil => rw [List.nil_append, parts_cons, if_pos rfl]
  | cons b l ih =>
    have h1 : b ≠ 47 := fun e => h (by rw [e]; exact List.mem_cons_self)
    rw [List.cons_append, parts_cons, if_neg h1, ih fun e => h (List.mem_cons_of_mem _ e)]
theorem inter_cons (x y : Bs) (l : List Bs) : ([47] : Bs).intercalate (x :: y :: l) = x ++ 47 :: ([47] : Bs).intercalate (y :: l) := by simp [List.intercalate]
theorem parts_join (l : List Bs) (h : ∀ x ∈ l, (47 : UInt8) ∉ x) (h0 : l ≠ []) : parts (Lib.join l [47]) = l := by
  unfold Lib.join
  induction l with
  | nil => exact absurd rfl h0
  | cons x l ih =>
    cases l with
    | nil => simpa [List.intercalate] using parts_one x (h x List.mem_cons_self)
    | cons y l =>
      rw [inter_cons, parts_app _ _ (h x List.mem_cons_self), ih (fun z hz => h z (List.mem_cons_of_mem _ hz)) (by simp)]
theorem comps_pathOf (l : List Bs) (h : ∀ x ∈ l, (47 : UInt8) ∉ x) (h1 : ∀ x ∈ l, x ≠ []) : comps (pathOf l) = l := by
  unfold comps pathOf
  rw [parts_cons, if_pos rfl, List.filter_cons_of_neg (by simp)]
  by_cases h0 : l = []
  · subst h0
    simp [Lib.join, List.intercalate, parts]
  · rw [parts_join l h h0]
    exact List.filter_eq_self.2 fun x hx => by simpa using h1 x hx
theorem pathOf_len (l : List Bs) : (pathOf l).length = if l = [] then 1 else wid l := by
  unfold pathOf Lib.join
  have key : ∀ (x : Bs) (l : List Bs), (([47] : Bs).intercalate (x :: l)).length + 1 = wid (x :: l) := by
    intro x l
    induction l generalizing x with
    | nil => simp [List.intercalate, wid]
    | cons y l ih =>
      rw [inter_cons, wid_cons, ← ih y, List.length_append, List.length_cons]
      omega
  cases l with
  | nil => simp [List.intercalate]
  | cons x l => rw [if_neg (by simp), List.length_cons, key]
theorem pathOf_mem (l : List Bs) : ∀ b ∈ pathOf l, b = 47 ∨ ∃ x ∈ l, b ∈ x := by
  intro b hb
  rw [← pathR_pathOf] at hb
  unfold pathR at hb
  split at hb
  · simp at hb; exact .inl hb
  · unfold pathL at hb
    obtain ⟨x, hx, hbx⟩ := List.mem_flatMap.1 hb
    rcases List.mem_cons.1 hbx with h | h
    · exact .inl h
    · exact .inr ⟨x, hx, h⟩
/-- Clean leaves its own answer as it is. -/
theorem clean_idem (a : Bs) (h : (cleanS a).2 = 0) : cleanS (cleanS a).1 = ((cleanS a).1, 0) := by
  have h0 : a ≠ [] := by
    intro e
    rw [e] at h
    unfold cleanS at h
    simp at h
  have h255 : ¬ 255 < a.length := by
    intro e
    unfold cleanS at h
    rw [if_neg h0, if_pos e] at h
    cases h
  have hz : ¬ (0 ≤ Lib.indexByte a 0 ∨ a.head? ≠ some 47) := by
    intro e
    unfold cleanS at h
    rw [if_neg h0, if_neg h255, if_pos e] at h
    cases h
  have hl : ¬ longB (comps a) = true := by
    intro e
    unfold cleanS at h
    rw [if_neg h0, if_neg h255, if_neg hz, if_pos e] at h
    cases h
  have hc : cleanS a = (pathOf (stk (comps a)), 0) := by
    unfold cleanS
    rw [if_neg h0, if_neg h255, if_neg hz, if_neg hl]
  rw [hc]
  simp only
  obtain ⟨r, hr⟩ : ∃ r, a = 47 :: r := by
    cases a with
    | nil => exact absurd rfl h0
    | cons b r =>
      have : b = 47 := Classical.byContradiction fun e => hz (.inr (by simpa using e))
      exact ⟨r, by rw [this]⟩
  have hsub := stk_sublist (comps a)
  have hmem : ∀ x ∈ stk (comps a), x ∈ comps a := fun x hx => hsub.subset hx
  have hcomp : ∀ x ∈ comps a, x ∈ parts a := fun x hx => (List.mem_filter.1 hx).1
  have hcp : comps (pathOf (stk (comps a))) = stk (comps a) := comps_pathOf _ (fun x hx => parts_noslash a x (hcomp x (hmem x hx))) (fun x hx => comps_ne (hmem x hx))
  have hst : stk (stk (comps a)) = stk (comps a) := stk_fix _ (stk_plain _)
  have hw : wid (comps a) ≤ a.length := by
    have h1 := parts_wid a
    rw [hr, parts_cons, if_pos rfl, wid_cons] at h1
    have h2 : (comps a).Sublist (parts r) := by
      rw [hr]
      unfold comps
      rw [parts_cons, if_pos rfl, List.filter_cons_of_neg (by simp)]
      exact List.filter_sublist
    have h3 := wid_sub h2
    rw [hr]
    simp at h1 ⊢
    rw [hr] at h3
    omega
  have hlen : ¬ 255 < (pathOf (stk (comps a))).length := by
    rw [pathOf_len]
    have := wid_sub hsub
    split <;> omega
  have hzz : ¬ (0 ≤ Lib.indexByte (pathOf (stk (comps a))) 0 ∨ (pathOf (stk (comps a))).head? ≠ some 47) := by
    rintro (e | e)
    · rw [indexByte_iff] at e
      rcases pathOf_mem _ 0 e with h1 | ⟨x, hx, hb⟩
      · cases h1
      · exact hz (.inl ((indexByte_iff a 0).2 (parts_mem a x (hcomp x (hmem x hx)) 0 hb)))
    · exact e rfl
  have hll : ¬ longB (stk (comps a)) = true := by
    intro e
    unfold longB at e hl
    rw [List.any_eq_true] at e hl
    obtain ⟨x, hx, he⟩ := e
    exact hl ⟨x, hmem x hx, he⟩
  have : cleanS (pathOf (stk (comps a))) = (pathOf (stk (comps (pathOf (stk (comps a))))), 0) := by
    rw [← hcp] at hll
    unfold cleanS
    rw [if_neg (pathOf_ne _), if_neg hlen, if_neg hzz, if_neg hll]
  rw [this, hcp, hst]
theorem cleanQ_of (a : Bs) (h : (cleanS a).2 = 0) : cleanQ (cleanS a).1 = true := by
  unfold cleanQ
  rw [clean_idem a h]
  simp
theorem cleanQ_slash : cleanQ [47] = true := by decide
theorem joinS_zero (c b : Bs) (h : (joinS c b).2 = 0) : cleanQ (joinS c b).1 = true := by
  unfold joinS at h ⊢
  split
  · rename_i h1; rw [if_pos h1] at h; exact absurd h h1
  · rename_i h1
    rw [if_neg h1] at h
    split
    · rename_i h2; rw [if_pos h2] at h; cases h
    · rename_i h2
      rw [if_neg h2] at h
      split
      · rename_i h3; rw [if_pos h3] at h; cases h
      · rename_i h3
        rw [if_neg h3] at h
        split
        · rename_i h4; rw [if_pos h4] at h; exact cleanQ_of _ h
        · rename_i h4
          rw [if_neg h4] at h
          split
          · rename_i h5; rw [if_pos h5] at h; cases h
          · rename_i h5; rw [if_neg h5] at h; exact cleanQ_of _ h
theorem covers_self {c : Bs} (h : cleanQ c = true) : coversS c c = true := by
  unfold coversS covB
  rw [h]
  simp
theorem covers_root {c : Bs} (h : cleanQ c = true) : coversS [47] c = true := by
  unfold coversS covB
  rw [h, cleanQ_slash]
  simp
theorem join_abs (c b : Bs) (hc : (cleanS c).2 = 0) (hb : b.head? = some 47) : joinS c b = cleanS b := by
  have h0 : b ≠ [] := by intro e; rw [e] at hb; cases hb
  unfold joinS
  rw [if_neg (by simpa using hc), if_neg h0]
  split
  · rename_i h; unfold cleanS; rw [if_neg h0, if_pos h]
  · first | rfl | rw [if_pos hb]
end Go.Proofs.Ytedoonfegcgmeaa
