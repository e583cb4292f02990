/- The reference's rights in plain words: its way of joining ranges is the same. -/
import Derived.Test.YthccppldpfddjaaDoorM2
namespace Go.Proofs.YthccppldpfddjaaDoor
/-- One turn of the reference's loop: what stays apart, and the range so far. -/
def wst (s : List Rg × Rg) (r : Rg) : List Rg × Rg := if s.2.1 ≤ r.2 + 1 ∧ r.1 ≤ s.2.2 + 1 then (s.1, (min s.2.1 r.1, max s.2.2 r.2)) else (s.1 ++ [r], s.2)
def wfold (l : List Rg) (lo hi : Int) : List Rg × Rg := l.foldl wst ([], (lo, hi))
/-- Where the range goes. -/
def putAt (out : List Rg) (x : Rg) : Nat := (out.takeWhile fun r => decide (r.1 ≤ x.2)).length
def putIn (out : List Rg) (x : Rg) : List Rg := out.take (putAt out x) ++ x :: out.drop (putAt out x)
theorem putAt_le (out : List Rg) (x : Rg) : putAt out x ≤ out.length := (List.takeWhile_sublist _).length_le
theorem putIn_cons_le {r x : Rg} {out : List Rg} (h : r.1 ≤ x.2) : putIn (r :: out) x = r :: putIn out x := by
  unfold putIn putAt
  rw [List.takeWhile_cons, if_pos (by simpa using h)]
  simp
theorem putIn_gt {out : List Rg} {x : Rg} (h : ∀ r ∈ out, x.2 < r.1) : putIn out x = x :: out := by
  have : putAt out x = 0 := by
    unfold putAt
    cases out with
    | nil => rfl
    | cons r l => rw [List.takeWhile_cons, if_neg (by have := h r (List.mem_cons_self); simp; omega)]; rfl
  unfold putIn
  rw [this]
  simp
theorem wst_in {o : List Rg} {x r : Rg} (h : x.1 ≤ r.2 + 1 ∧ r.1 ≤ x.2 + 1) : wst (o, x) r = (o, (min x.1 r.1, max x.2 r.2)) := by unfold wst; rw [if_pos h]
theorem wst_out {o : List Rg} {x r : Rg} (h : ¬ (x.1 ≤ r.2 + 1 ∧ r.1 ≤ x.2 + 1)) : wst (o, x) r = (o ++ [r], x) := by unfold wst; rw [if_neg h]
theorem wst_pre (l : List Rg) (o : List Rg) (x : Rg) : l.foldl wst (o, x) = (o ++ (l.foldl wst ([], x)).1, (l.foldl wst ([], x)).2) := by
  induction l generalizing o x with
  | nil => simp
  | cons r l ih =>
    rw [List.foldl_cons, List.foldl_cons]
    by_cases h : x.1 ≤ r.2 + 1 ∧ r.1 ≤ x.2 + 1
    · rw [wst_in h, wst_in h, ih]
    · rw [wst_out h, wst_out h, ih, ih (o := [] ++ [r])]; simp
theorem wfold_cons_in {r : Rg} {l : List Rg} {lo hi : Int} (h : lo ≤ r.2 + 1 ∧ r.1 ≤ hi + 1) : wfold (r :: l) lo hi = wfold l (min lo r.1) (max hi r.2) := by
  unfold wfold
  rw [List.foldl_cons, wst, if_pos h]
theorem wfold_cons_out {r : Rg} {l : List Rg} {lo hi : Int} (h : ¬ (lo ≤ r.2 + 1 ∧ r.1 ≤ hi + 1)) : wfold (r :: l) lo hi = (r :: (wfold l lo hi).1, (wfold l lo hi).2) := by
  unfold wfold
  rw [List.foldl_cons, wst, if_neg h, wst_pre]
  simp
theorem wfold_above {l : List Rg} {lo hi : Int} (hl : ∀ r ∈ l, hi + 1 < r.1) : wfold l lo hi = (l, (lo, hi)) := by
  induction l with
  | nil => rfl
  | cons r l ih =>
    have := hl r (List.mem_cons_self)
    rw [wfold_cons_out (by omega), ih (fun x hx => hl x (List.mem_cons_of_mem _ hx))]
theorem wfold_hi {l : List Rg} (lo hi : Int) : hi ≤ (wfold l lo hi).2.2 := by
  induction l generalizing lo hi with
  | nil => simp [wfold]
  | cons r l ih =>
    by_cases h : lo ≤ r.2 + 1 ∧ r.1 ≤ hi + 1
    · rw [wfold_cons_in h]; have := ih (min lo r.1) (max hi r.2); omega
    · rw [wfold_cons_out h]; exact ih lo hi
/-- The reference's way joins as the other one. -/
theorem refW_eq {l : List Rg} {lo hi : Int} (h : Good l) (hl : lo ≤ hi) : putIn (wfold l lo hi).1 (wfold l lo hi).2 = withR l lo hi := by
  induction l generalizing lo hi with
  | nil => rfl
  | cons r l ih =>
    have hr := h.head
    unfold okR at hr
    have hg := h.gap
    rw [withR_cons]
    split
    · rw [wfold_cons_out (by omega), putIn_cons_le (by have := @wfold_hi l lo hi; simp only; omega), ih h.tail hl]
    · split
      · rw [wfold_above (by
          intro x hx
          rcases List.mem_cons.1 hx with rfl | hx
          · omega
          · have := hg x hx; omega)]
        refine putIn_gt ?_
        intro x hx
        rcases List.mem_cons.1 hx with rfl | hx
        · simp only; omega
        · have := hg x hx; simp only; omega
      · rw [wfold_cons_in (by omega), ih h.tail (by omega)]
theorem wfold_snoc (l : List Rg) (lo hi : Int) {k : Nat} (hk : k < l.length) : wfold (l.take (k + 1)) lo hi = wst (wfold (l.take k) lo hi) l[k] := by
  unfold wfold
  rw [List.take_succ_eq_append_getElem hk, List.foldl_append]
  rfl
theorem wfold_len (l : List Rg) (lo hi : Int) : (wfold l lo hi).1.length ≤ l.length := by
  induction l generalizing lo hi with
  | nil => simp [wfold]
  | cons r l ih =>
    by_cases h : lo ≤ r.2 + 1 ∧ r.1 ≤ hi + 1
    · rw [wfold_cons_in h, List.length_cons]; have := ih (min lo r.1) (max hi r.2); omega
    · rw [wfold_cons_out h]; simp only [List.length_cons]; have := ih lo hi; omega
/-- All numbers stay within bounds. -/
theorem wfold_ok {l : List Rg} {lo hi : Int} (h : ∀ r ∈ l, okR r) (hl : okR (lo, hi)) : (∀ r ∈ (wfold l lo hi).1, okR r) ∧ okR (wfold l lo hi).2 := by
  induction l generalizing lo hi with
  | nil => exact ⟨by simp [wfold], hl⟩
  | cons r l ih =>
    have hr := h r (List.mem_cons_self)
    have ht := fun x hx => h x (List.mem_cons_of_mem r hx)
    by_cases hc : lo ≤ r.2 + 1 ∧ r.1 ≤ hi + 1
    · rw [wfold_cons_in hc]
      refine ih ht ?_
      unfold okR at *
      simp only at *
      omega
    · rw [wfold_cons_out hc]
      obtain ⟨h1, h2⟩ := ih ht hl
      refine ⟨?_, h2⟩
      intro x hx
      rcases List.mem_cons.1 hx with rfl | hx
      · exact hr
      · exact h1 x hx
end Go.Proofs.YthccppldpfddjaaDoor
namespace Go.Proofs.YthccppldpfddjaaDoor
/-- What the program computes. -/
def wthB (S T : St) : Bool := (List.range 64).all fun i => (S i).rs.all fun x => (T i).rs.any fun y => decide (y.1 ≤ x.1) && decide (x.2 ≤ y.2)
def outAll (l m : List Rg) : List Rg := m.foldl (fun l r => outS l r.1 r.2) l
/-- What the reference computes. -/
def wthR (S T : St) : Bool := (List.range 64).all fun i => (outAll (S i).rs (T i).rs).isEmpty
def pts (l : List Rg) (v : Int) : Prop := ∃ r ∈ l, r.1 ≤ v ∧ v ≤ r.2
def Fine (l : List Rg) : Prop := ∀ r ∈ l, r.1 ≤ r.2
theorem Good.fine {l : List Rg} (h : Good l) : Fine l := fun r hr => (h.1 r hr).2.1
theorem pieces_pts {lo hi : Int} {r : Rg} (h : r.1 ≤ r.2) (hl : lo ≤ hi) (v : Int) : (∃ x ∈ pieces lo hi r, x.1 ≤ v ∧ v ≤ x.2) ↔ (r.1 ≤ v ∧ v ≤ r.2) ∧ ¬ (lo ≤ v ∧ v ≤ hi) := by
  obtain ⟨a, b⟩ := r
  simp only at h
  unfold pieces
  constructor
  · rintro ⟨x, hx, h1, h2⟩
    rcases List.mem_append.1 hx with hx | hx
    · split at hx
      · simp at hx; subst hx; simp only at *; omega
      · simp at hx
    · split at hx
      · simp at hx; subst hx; simp only at *; omega
      · simp at hx
  · rintro ⟨⟨h1, h2⟩, h3⟩
    simp only at h1 h2 ⊢
    by_cases hv : v < lo
    · refine ⟨(a, min b (lo - 1)), List.mem_append.2 (.inl ?_), h1, ?_⟩
      · rw [if_pos (by omega)]; simp
      · simp only; omega
    · refine ⟨(max a (hi + 1), b), List.mem_append.2 (.inr ?_), ?_, h2⟩
      · rw [if_pos (by omega)]; simp
      · simp only; omega
theorem outS_pts {l : List Rg} {lo hi : Int} (h : Fine l) (hl : lo ≤ hi) (v : Int) : pts (outS l lo hi) v ↔ pts l v ∧ ¬ (lo ≤ v ∧ v ≤ hi) := by
  unfold pts
  constructor
  · rintro ⟨x, hx, hv⟩
    obtain ⟨r, hr, hxr⟩ := outS_mem hx
    obtain ⟨h1, h2⟩ := (pieces_pts (h r hr) hl v).1 ⟨x, hxr, hv⟩
    exact ⟨⟨r, hr, h1⟩, h2⟩
  · rintro ⟨⟨r, hr, h1⟩, h2⟩
    obtain ⟨x, hx, hv⟩ := (pieces_pts (h r hr) hl v).2 ⟨h1, h2⟩
    exact ⟨x, by unfold outS; exact List.mem_flatMap.2 ⟨r, hr, hx⟩, hv⟩
theorem outS_fine {l : List Rg} (lo hi : Int) (h : Fine l) : Fine (outS l lo hi) := fun x hx => by
  obtain ⟨r, hr, hxr⟩ := outS_mem hx
  exact (pieces_in (h r hr) hxr).2.1
theorem outAll_pts {l m : List Rg} (h : Fine l) (hm : Fine m) (v : Int) : pts (outAll l m) v ↔ pts l v ∧ ¬ pts m v := by
  induction m generalizing l with
  | nil => simp [outAll, pts]
  | cons y m ih =>
    have hy := hm y (List.mem_cons_self)
    have ih := ih (outS_fine y.1 y.2 h) (fun r hr => hm r (List.mem_cons_of_mem _ hr))
    rw [show outAll l (y :: m) = outAll (outS l y.1 y.2) m from rfl, ih, outS_pts h hy]
    unfold pts
    simp only [List.mem_cons, exists_eq_or_imp, not_or, and_assoc]
theorem outAll_fine {l m : List Rg} (h : Fine l) : Fine (outAll l m) := by
  induction m generalizing l with
  | nil => exact h
  | cons y m ih => exact ih (outS_fine _ _ h)
theorem outAll_nil {l m : List Rg} (h : Fine l) (hm : Good m) : outAll l m = [] ↔ ∀ x ∈ l, ∃ y ∈ m, y.1 ≤ x.1 ∧ x.2 ≤ y.2 := by
  have hp := outAll_pts h hm.fine
  constructor
  · intro he x hx
    have hx2 := h x hx
    have cov : ∀ v, x.1 ≤ v → v ≤ x.2 → pts m v := fun v h1 h2 => by
      refine Classical.byContradiction fun hn => ?_
      obtain ⟨r, hr, -⟩ := (hp v).2 ⟨⟨x, hx, h1, h2⟩, hn⟩
      rw [he] at hr
      simp at hr
    obtain ⟨y, hy, h1, h2⟩ := cov x.1 (Int.le_refl _) hx2
    refine ⟨y, hy, h1, ?_⟩
    by_cases h3 : x.2 ≤ y.2
    · exact h3
    · exfalso
      obtain ⟨z, hz, h4, h5⟩ := cov (y.2 + 1) (by omega) (by omega)
      have hyz : y ≠ z := by rintro rfl; omega
      have hy1 := hm.fine y hy
      have hz1 := hm.fine z hz
      rcases List.Pairwise.forall_of_forall_of_flip (R := fun a b : Rg => a ≠ b → a.2 + 1 < b.1 ∨ b.2 + 1 < a.1) (by intro a _ hne; exact absurd rfl hne) (hm.2.imp (fun hab _ => .inl hab)) (hm.2.imp (fun hab _ => .inr hab)) hy hz hyz with h6 | h6 <;> omega
  · intro hc
    cases he : outAll l m with
    | nil => rfl
    | cons r k =>
      exfalso
      have hr : r ∈ outAll l m := by rw [he]; exact List.mem_cons_self
      have hf := outAll_fine (m := m) h r hr
      obtain ⟨⟨x, hx, h1, h2⟩, h3⟩ := (hp r.1).1 ⟨r, hr, Int.le_refl _, hf⟩
      obtain ⟨y, hy, h4, h5⟩ := hc x hx
      exact h3 ⟨y, hy, by omega, by omega⟩
theorem wth_same {S T : St} (hS : StOk S) (hT : StOk T) : wthR S T = wthB S T := by
  unfold wthR wthB
  rw [Bool.eq_iff_iff]
  simp only [List.all_eq_true, List.mem_range]
  constructor
  · intro h i hi x hx
    have := (outAll_nil (hS i hi).1.fine (hT i hi).1).1 (by simpa using h i hi) x hx
    obtain ⟨y, hy, h1, h2⟩ := this
    exact List.any_eq_true.2 ⟨y, hy, by simp [h1, h2]⟩
  · intro h i hi
    have := (outAll_nil (hS i hi).1.fine (hT i hi).1).2 (fun x hx => by
      obtain ⟨y, hy, h1⟩ := List.any_eq_true.1 (h i hi x hx)
      simp only [Bool.and_eq_true, decide_eq_true_eq] at h1
      exact ⟨y, hy, h1⟩)
    simp [this]
theorem wth_refl (S : St) : wthB S S = true := by
  unfold wthB
  simp only [List.all_eq_true, List.mem_range]
  intro i _ x hx
  exact List.any_eq_true.2 ⟨x, hx, by simp⟩
/-- One range takes at most one range more. -/
theorem outS_same {l : List Rg} {lo hi : Int} (hl : lo ≤ hi) (h : ∀ r ∈ l, hi < r.1 ∧ r.1 ≤ r.2) : outS l lo hi = l := by
  induction l with
  | nil => rfl
  | cons r l ih =>
    obtain ⟨h1, h2⟩ := h r (List.mem_cons_self)
    rw [outS_cons, ih (fun x hx => h x (List.mem_cons_of_mem _ hx))]
    unfold pieces
    rw [if_neg (by omega), if_pos (by omega), show max r.1 (hi + 1) = r.1 by omega]
    rfl
theorem outS_more {l : List Rg} {lo hi : Int} (h : Good l) (hl : lo ≤ hi) : (outS l lo hi).length ≤ l.length + 1 := by
  induction l with
  | nil => simp [outS]
  | cons r l ih =>
    have hr := h.head
    unfold okR at hr
    rw [outS_cons, List.length_append, List.length_cons]
    by_cases hc : r.1 < lo ∧ hi < r.2
    · rw [outS_same hl (fun x hx => ⟨by have := h.gap x hx; omega, h.tail.fine x hx⟩)]
      have := pieces_len lo hi r
      omega
    · have h1 : (pieces lo hi r).length ≤ 1 := by
        unfold pieces
        split <;> split <;> first | (simp; done) | (exfalso; omega)
      have := ih h.tail
      omega
theorem outAll_good {l m : List Rg} (h : Good l) (hm : Good m) : Good (outAll l m) ∧ (outAll l m).length ≤ l.length + m.length := by
  induction m generalizing l with
  | nil => exact ⟨h, by simp [outAll]⟩
  | cons y m ih =>
    have hy := hm.head
    unfold okR at hy
    obtain ⟨h1, h2⟩ := ih (outS_good h hy.2.1) hm.tail
    refine ⟨h1, ?_⟩
    have := outS_more h hy.2.1
    rw [show outAll l (y :: m) = outAll (outS l y.1 y.2) m from rfl, List.length_cons]
    omega
theorem outAll_snoc (l m : List Rg) {k : Nat} (hk : k < m.length) : outAll l (m.take (k + 1)) = outS (outAll l (m.take k)) m[k].1 m[k].2 := by
  unfold outAll
  rw [List.take_succ_eq_append_getElem hk, List.foldl_append]
  rfl
theorem Good.take {m : List Rg} (h : Good m) (k : Nat) : Good (m.take k) := ⟨fun r hr => h.1 r (List.mem_of_mem_take hr), h.2.sublist (List.take_sublist _ _)⟩
end Go.Proofs.YthccppldpfddjaaDoor
