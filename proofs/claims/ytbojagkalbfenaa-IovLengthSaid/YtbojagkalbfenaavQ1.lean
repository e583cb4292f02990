import Derived.Test.YtbojagkalbfenaavL4
import Derived.Test.YtbojagkalbfenaavJ0
import Derived.Test.YtbojagkalbfenaavR4
import Derived.Test.YtbojagkalbfenaaPIovLengthx5
namespace Go.Proofs.Ytbojagkalbfenaa
set_option linter.unusedSimpArgs false
set_option linter.unusedVariables false
open Go.RowKit PIovLength Go.Proofs.YtbojagkalbfenaaW.PrintWords

/-- As joinStep, empty parts left out. -/
def skipJoin (out : List (Int × Int)) (p : Int × Int) : List (Int × Int) := if p.2 = 0 then out else joinStep out p
theorem sumL_zero {l : List (Int × Int)} (h : okP l) (h0 : sumL l ≤ 0) : ∀ p ∈ l, p.2 = 0 := by
  induction l with
  | nil => intro p hp; cases hp
  | cons x r ih =>
    intro p hp
    have hr : okP r := fun q hq => h q (List.mem_cons_of_mem _ hq)
    have hx := h x List.mem_cons_self
    have hb := sumL_bound hr
    simp only [sumL] at h0
    rcases List.mem_cons.1 hp with rfl | hp
    · omega
    · exact ih hr (by omega) p hp
theorem slicedL_all {l : List (Int × Int)} (h : okP l) : ∀ m : Int, sumL l ≤ m → slicedL l 0 m = l.filter (fun p => decide (p.2 ≠ 0)) := by
  induction l with
  | nil => intro m _; rfl
  | cons x r ih =>
    intro m hm
    have hr : okP r := fun q hq => h q (List.mem_cons_of_mem _ hq)
    have hx := h x List.mem_cons_self
    have hb := sumL_bound hr
    simp only [sumL] at hm
    simp only [slicedL]
    by_cases hz : x.2 = 0
    · rw [List.filter_cons_of_neg (by simp [hz])]
      split
      · rename_i hm0
        rw [List.filter_eq_nil_iff.2]
        intro p hp
        simp [sumL_zero hr (by omega) p hp]
      · rw [if_pos (by omega), hz, Int.sub_zero]
        exact ih hr m (by omega)
    · rw [List.filter_cons_of_pos (by simpa using hz), if_neg (by omega), if_neg (by omega)]
      rw [show min (x.2 - 0) m = x.2 by omega, ih hr (m - x.2) (by omega), Int.add_zero]
theorem fold_skip (l : List (Int × Int)) : ∀ out, l.foldl skipJoin out = (l.filter (fun p => decide (p.2 ≠ 0))).foldl joinStep out := by
  induction l with
  | nil => intro out; rfl
  | cons x r ih =>
    intro out
    by_cases hz : x.2 = 0
    · rw [List.filter_cons_of_neg (by simp [hz]), List.foldl_cons, ih, skipJoin, if_pos hz]
    · rw [List.filter_cons_of_pos (by simpa using hz), List.foldl_cons, List.foldl_cons, ih, skipJoin, if_neg hz]

theorem rjoin_l0 (l : List S44) (hok : okP (prs l)) (hl : l.length ≤ 16) : ∀ (c k i : Nat) (out : List S44), i + c = l.length → c < k → out.length ≤ i →
    (∀ q ∈ prs out, (0 ≤ q.1 ∧ q.1 ≤ 1099511627776) ∧ 0 ≤ q.2 ∧ q.2 ≤ 4096 * i) → ∃ r, orpimentref09_Join.l0 k l out i = some (r, 0) ∧ prs r = ((prs l).drop i).foldl skipJoin (prs out)
  | 0, k + 1, i, out, hi, _, _, _ => by
    have : ¬ ((i : Int) < (l.length : Int)) := by omega
    simp only [orpimentref09_Join.l0, this, if_false]
    rw [List.drop_eq_nil_of_le (by rw [prs_length]; omega)]
    exact ⟨_, rfl, rfl⟩
  | c + 1, k + 1, i, out, hi, hk, ho, hb => by
    have hlt : i < l.length := by omega
    have hd := rd_prs l i hlt
    have hx := hok ((rd_T44 l i).f0, (rd_T44 l i).f1) (List.mem_of_mem_drop (by rw [hd]; exact List.mem_cons_self))
    simp only at hx
    simp only [orpimentref09_Join.l0, show (i : Int) < (l.length : Int) by omega, show (0 : Int) ≤ (i : Int) by omega, if_true]
    rw [w64 (x := (i : Int) + 1) (by omega) (by omega), hd]
    simp only [List.foldl_cons]
    rw [show (i : Int) + 1 = ((i + 1 : Nat) : Int) by omega]
    by_cases z : (rd_T44 l i).f1 = 0
    · rw [if_pos z, skipJoin, if_pos z]
      exact rjoin_l0 l hok hl c k (i + 1) out (by omega) (by omega) (by omega) (fun q hq => by have := hb q hq; omega)
    · rw [if_neg z, skipJoin, if_neg z]
      rcases List.eq_nil_or_concat out with rfl | ⟨o, q, rfl⟩
      · obtain ⟨r, hr, hp⟩ := rjoin_l0 l hok hl c k (i + 1) [⟨(rd_T44 l i).f0, (rd_T44 l i).f1⟩] (by omega) (by omega) (by simp) (fun y hy => by simp [prs] at hy; subst hy; simp only; omega)
        refine ⟨r, ?_, ?_⟩
        · simpa using hr
        · rw [hp]; rfl
      · rw [List.concat_eq_append] at *
        have hql := hb (q.f0, q.f1) (by simp [prs])
        simp only at hql
        have hg : rd_T44 (o ++ [q]) ((o.length : Nat) : Int) = q := by simp [rd_T44]
        have hw1 : wrap64 (((o ++ [q]).length : Int) - 1) = (o.length : Int) := by
          simp only [List.length_append, List.length_cons, List.length_nil] at ho ⊢; rw [w64 (by omega) (by omega)]; omega
        have hset : ∀ y : S44, (o ++ [q]).set ((o.length : Int)).toNat y = o ++ [y] := fun y => by simp
        simp only [hw1, hg, show ((o ++ [q]).length : Int) > 0 by simp only [List.length_append, List.length_cons, List.length_nil]; omega, show (0 : Int) ≤ (o.length : Int) by omega, show (o.length : Int) < ((o ++ [q]).length : Int) by simp only [List.length_append, List.length_cons, List.length_nil]; omega, if_true, hset]
        rw [w64 (x := q.f0 + q.f1) (by omega) (by omega), w64 (x := q.f1 + (rd_T44 l i).f1) (by omega) (by omega)]
        have hpo : prs (o ++ [q]) = prs o ++ [(q.f0, q.f1)] := by simp [prs]
        rw [hpo, joinStep_snoc]
        simp only
        simp only [List.length_append, List.length_cons, List.length_nil] at ho
        by_cases ha : q.f0 + q.f1 = (rd_T44 l i).f0
        · rw [if_pos ha, if_pos ha]
          obtain ⟨r, hr, hp⟩ := rjoin_l0 l hok hl c k (i + 1) (o ++ [⟨q.f0, q.f1 + (rd_T44 l i).f1⟩]) (by omega) (by omega) (by simp; omega) (fun y hy => by
            rw [show prs (o ++ [⟨q.f0, q.f1 + (rd_T44 l i).f1⟩]) = prs o ++ [(q.f0, q.f1 + (rd_T44 l i).f1)] by simp [prs]] at hy
            rcases List.mem_append.1 hy with h | h
            · have := hb y (by rw [hpo]; exact List.mem_append_left _ h); omega
            · rw [List.mem_singleton] at h; subst h; simp only; omega)
          exact ⟨r, hr, by rw [hp]; simp [prs]⟩
        · rw [if_neg ha, if_neg ha, if_pos (by simp; omega)]
          obtain ⟨r, hr, hp⟩ := rjoin_l0 l hok hl c k (i + 1) (o ++ [q] ++ [⟨(rd_T44 l i).f0, (rd_T44 l i).f1⟩]) (by omega) (by omega) (by simp; omega) (fun y hy => by
            rw [show prs (o ++ [q] ++ [⟨(rd_T44 l i).f0, (rd_T44 l i).f1⟩]) = prs (o ++ [q]) ++ [((rd_T44 l i).f0, (rd_T44 l i).f1)] by simp [prs]] at hy
            rcases List.mem_append.1 hy with h | h
            · have := hb y h; omega
            · rw [List.mem_singleton] at h; subst h; simp only; omega)
          exact ⟨r, hr, by rw [hp]; simp [prs]⟩
theorem rjoin_f (l : List S44) {k : Nat} (hk : 60 ≤ k) :
    ∃ r, orpimentref09_Join.f k l = some (r, chk (prs l)) ∧ prs r = if chk (prs l) = 0 then joinL (slicedL (prs l) 0 (sumL (prs l))) else [] := by
  rw [orpimentref09_Join.f, rlen_f l hk, Option.bind_some]
  by_cases h : chk (prs l) = 0
  · obtain ⟨h1, h2, h3, h4⟩ := chk_zero h
    rw [prs_length] at h2
    simp only [h, if_true]
    obtain ⟨r, hr, hp⟩ := rjoin_l0 l h1 h2 l.length k 0 [] (by omega) (by omega) (by simp) (by simp [prs])
    refine ⟨r, hr, ?_⟩
    rw [hp, List.drop_zero, fold_skip, joinL, slicedL_all h1 _ (Int.le_refl _)]
    rfl
  · simp only [h, if_false]
    exact ⟨[], rfl, by simp [prs]⟩

theorem equalP_l0 (a b : List S44) (hl : a.length = b.length) (hb : a.length ≤ 1000000) : ∀ (c k i : Nat), i + c = a.length → c < k → api_Part.l0 k a b a.length i = some (decide (prs (a.drop i) = prs (b.drop i)))
  | 0, k + 1, i, hi, _ => by
    simp only [api_Part.l0, show ¬ ((i : Int) < (a.length : Int)) by omega, if_false]
    rw [List.drop_eq_nil_of_le (by omega), List.drop_eq_nil_of_le (by omega)]
    simp
  | c + 1, k + 1, i, hi, hk => by
    have ih := equalP_l0 a b hl hb c k (i + 1) (by omega) (by omega)
    rw [show ((i + 1 : Nat) : Int) = (i : Int) + 1 by omega] at ih
    simp only [api_Part.l0, show (i : Int) < (a.length : Int) by omega, show (i : Int) < (b.length : Int) by omega, show (0 : Int) ≤ (i : Int) by omega, if_true]
    have hda := rd_prs a i (by omega)
    have hdb := rd_prs b i (by omega)
    rw [w64 (x := (i : Int) + 1) (by omega) (by omega), ih]
    have e1 : prs (a.drop i) = ((rd_T44 a i).f0, (rd_T44 a i).f1) :: prs (a.drop (i + 1)) := by simpa [prs, List.map_drop] using hda
    have e2 : prs (b.drop i) = ((rd_T44 b i).f0, (rd_T44 b i).f1) :: prs (b.drop (i + 1)) := by simpa [prs, List.map_drop] using hdb
    rw [e1, e2]
    by_cases h0 : (rd_T44 a i).f0 = (rd_T44 b i).f0 <;> by_cases h1 : (rd_T44 a i).f1 = (rd_T44 b i).f1 <;> simp [h0, h1]
theorem equalP_f (a b : List S44) (hb : a.length ≤ 1000000) {k : Nat} (hk : 1000002 ≤ k) : api_Part.f k a b = some (decide (prs a = prs b)) := by
  unfold api_Part.f
  by_cases h : a.length = b.length
  · rw [if_pos (by omega)]
    have := equalP_l0 a b h hb a.length k 0 (by omega) (by omega)
    simpa using this
  · rw [if_neg (by omega), decide_eq_false]
    intro he
    have := congrArg List.length he
    rw [prs_length, prs_length] at this
    exact h this
end Go.Proofs.Ytbojagkalbfenaa
