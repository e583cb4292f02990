import Derived.Test.YtbojagkalbfenaavQ1
import Derived.Test.YtbojagkalbfenaavJ1
import Derived.Test.YtbojagkalbfenaavG5
namespace Go.Proofs.Ytbojagkalbfenaa
set_option linter.unusedSimpArgs false
set_option linter.unusedVariables false
open Go.RowKit PIovLength Go.Proofs.YtbojagkalbfenaaW.PrintWords
attribute [local go_sem] ints_get ints_size ints_getElem

theorem pcs_get (l : List (Int × Int)) (i : Nat) (h : i < l.length) : (pcs l)[i * 2]? = some (.int .i64 (l.getD i (0, 0)).1) ∧ (pcs l)[i * 2 + 1]? = some (.int .i64 (l.getD i (0, 0)).2) := by
  induction l generalizing i with
  | nil => simp at h
  | cons p l ih =>
    cases i with
    | zero => simp [pcs]
    | succ i =>
      have := ih i (by simpa using h)
      simp only [pcs, List.flatMap_cons] at this ⊢
      rw [show (i + 1) * 2 = (i * 2) + 2 by omega, show (i * 2) + 2 + 1 = (i * 2 + 1) + 2 by omega]
      simpa using this
theorem C_of_pairs {w : World} {A : Option Addr} {l : List S44} (hl : l.length ≤ 9223372036854775807) (h : Pairs w A (prs l)) : Kd.C k44 w A l.length l := by
  refine ⟨rfl, hl, fun hp => ?_⟩
  obtain ⟨ad, e, _⟩ := h 0 (by rw [prs_length]; exact hp)
  refine ⟨ad, e, fun j p hj => ⟨[.int .i64 p.f0, .int .i64 p.f1], rfl, k44_mk w p, fun i u hu => ?_⟩⟩
  have hjl := (List.getElem?_eq_some_iff.1 hj).1
  obtain ⟨ad2, e2, h1, h2⟩ := h j (by rw [prs_length]; exact hjl)
  rw [e] at e2
  cases e2
  have hg : (prs l).getD j (0, 0) = (p.f0, p.f1) := by simp [prs, List.getD_eq_getElem?_getD, hj]
  rw [hg] at h1 h2
  show w.cell? (ad.add (j * 2 + i)) = some u
  match i, hu with
  | 0, hu => cases hu; exact h1
  | 1, hu =>
    cases hu
    rw [show ad.add (j * 2 + 1) = ⟨(ad.add (j * 2)).block, (ad.add (j * 2)).off + 1, none⟩ by rw [← add_plus]; unfold Addr.add; simp]
    exact h2
  | i + 2, hu => simp at hu
theorem C_own44 {w : World} {base : Nat} {v : Value} {xs : List (Int × Int)} (h : w.ownsRow base 44 2 v xs.length (pcs xs)) : ∃ (A : Option Addr) (c : Nat) (l : List S44), v = .slice A l.length c ∧ l.length ≤ c ∧ Kd.C k44 w A l.length l ∧ prs l = xs := by
  have hp : prs (xs.map fun p => (⟨p.1, p.2⟩ : S44)) = xs := by simp [prs, Function.comp_def]
  rcases h.2 with ⟨rfl, h0⟩ | ⟨g, cap, cur, rfl, _, _, hc, hm, _⟩
  · have : xs = [] := List.length_eq_zero_iff.1 h0
    subst this
    exact ⟨none, 0, [], rfl, by simp, ⟨rfl, by simp, fun hp => by simp at hp⟩, rfl⟩
  · refine ⟨some ⟨g, 0, none⟩, cap, xs.map fun p => (⟨p.1, p.2⟩ : S44), by simp, by simpa using hc, C_of_pairs (by simp only [maxLen] at hm; simp; omega) ?_, hp⟩
    rw [hp]
    intro i hi
    obtain ⟨h1, h2⟩ := pcs_get xs i hi
    have c1 := h.cells (g := g) rfl _ _ h1
    have c2 := h.cells (g := g) rfl _ _ h2
    refine ⟨_, rfl, c1, ?_⟩
    rw [add_at] at c1 c2 ⊢
    rw [show 0 + (i * 2 + 1) = 0 + i * 2 + 1 by omega] at c2
    exact c2
theorem small0_f (l : List S44) {k : Nat} (hk : 3 ≤ k) : orpimentlaw09_small.f k l [] = some (decide ((l.length : Int) ≤ 60)) := by
  obtain ⟨m, rfl⟩ : ∃ m, k = m + 1 + 1 := ⟨k - 2, by omega⟩
  simp [orpimentlaw09_small.f, orpimentlaw09_small.l0]
theorem length_f (l : List S44) {k : Nat} (hk : 60 ≤ k) : iov_Length.f k l = some (if chk (prs l) = 0 then sumL (prs l) else 0, chk (prs l)) := by
  rw [iov_Length.f, check_f l hk, Option.bind_some]
  by_cases h : chk (prs l) = 0
  · obtain ⟨h1, h2, _, _⟩ := chk_zero h
    rw [prs_length] at h2
    rw [if_pos h, total_f h1 h2 (by omega), if_pos h, h]; rfl
  · rw [if_neg h, if_neg h]
theorem sres_length (l : List S44) (off n : Int) : (sres l off n).length ≤ 16 := by
  unfold sres; split
  · rename_i h
    have := (wth_zero h).2.1
    have := slicedL_length (prs l) off n
    omega
  · simp
theorem jres_length (l : List S44) : (jres l).length ≤ 16 := by
  unfold jres; split
  · rename_i h
    have := (chk_zero h).2.1
    have := slicedL_length (prs l) 0 (sumL (prs l))
    have := joinL_length (slicedL (prs l) 0 (sumL (prs l)))
    omega
  · simp
/-- slices.Equal of two lists of the same parts. -/
theorem equalP_same {W : World} {A B : Option Addr} {ca cb : Nat} {l1 l2 : List S44} (ha : Kd.C k44 W A l1.length l1) (hb : Kd.C k44 W B l2.length l2) (hca : l1.length ≤ ca) (hcb : l2.length ≤ cb) (hl : l1.length ≤ 1000000) (he : prs l1 = prs l2) :
    Calls Try.prog 24 #[.slice A l1.length ca, .slice B l2.length cb] W fun e w' => e = .returned (.bool true) ∧ Below W.heap.size W w' := by
  refine (api_Part.calls 1000002 A ca l1 B cb l2 true W ha hca hb hcb (by rw [equalP_f l1 l2 hl (by omega), he]; simp)).mono ?_
  rintro e w' ⟨rfl, hd⟩
  exact ⟨rfl, hd.below⟩
end Go.Proofs.Ytbojagkalbfenaa
