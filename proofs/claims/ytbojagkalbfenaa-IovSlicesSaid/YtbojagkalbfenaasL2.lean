import Derived.Test.YtbojagkalbfenaasL1
namespace Go.Proofs.Ytbojagkalbfenaa
set_option linter.unusedSimpArgs false
open Go.RowKit PIovSlices

def okB1 (p : Int × Int) : Bool := decide (0 ≤ p.1) && decide (p.1 ≤ 1099511627776) && decide (0 ≤ p.2) && decide (p.2 ≤ 4096)
def okB (l : List (Int × Int)) : Bool := l.all okB1
theorem okB_iff {l : List (Int × Int)} : okB l = true ↔ okP l := by
  simp only [okB, okB1, okP, List.all_eq_true, Bool.and_eq_true, decide_eq_true_eq]
  constructor
  · intro h p hp; have := h p hp; omega
  · intro h p hp; have := h p hp; omega
/-- The code of a list: Check's answer. -/
def chk (l : List (Int × Int)) : Int := if 16 < l.length then 18 else if okB l = true then (if 4096 < sumL l then 20 else 0) else 34

theorem check_l2 (l : List S44) (hl : l.length ≤ 16) (x0 x21 : List (List S44)) (x22 x23 : Int) : ∀ (n m i : Nat), i + n = l.length →
    iov_check.l2 (m + 1 + n) x0 x21 x22 x23 l l.length i = if okB ((prs l).drop i) = true then iov_check.l1 m x0 x21 x22 (wrap64 (x23 + 1)) else some 34
  | 0, m, i, hi => by
    have : ¬ ((i : Int) < (l.length : Int)) := by omega
    simp only [Nat.add_zero, iov_check.l2, this, if_false]
    rw [List.drop_eq_nil_of_le (by rw [prs_length]; omega)]
    simp [okB]
  | n + 1, m, i, hi => by
    have hlt : i < l.length := by omega
    have hd := rd_prs l i hlt
    have ih := check_l2 l hl x0 x21 x22 x23 n m (i + 1) (by omega)
    rw [show ((i + 1 : Nat) : Int) = (i : Int) + 1 by omega] at ih
    rw [show m + 1 + (n + 1) = (m + 1 + n) + 1 by omega]
    simp only [iov_check.l2, show (i : Int) < (l.length : Int) by omega, show (0 : Int) ≤ (i : Int) by omega, if_true]
    rw [w64 (x := (i : Int) + 1) (by omega) (by omega), ih, hd]
    simp only [okB, List.all_cons, okB1]
    by_cases h1 : (rd_T44 l i).f0 < 0
    · simp [h1, show ¬ (0 ≤ (rd_T44 l i).f0) by omega]
    · by_cases h2 : (rd_T44 l i).f0 > 1099511627776
      · simp [h1, h2, show ¬ ((rd_T44 l i).f0 ≤ 1099511627776) by omega]
      · by_cases h3 : (rd_T44 l i).f1 < 0
        · simp [h1, h2, h3, show ¬ (0 ≤ (rd_T44 l i).f1) by omega]
        · by_cases h4 : (rd_T44 l i).f1 > 4096
          · simp [h1, h2, h3, h4, show ¬ ((rd_T44 l i).f1 ≤ 4096) by omega]
          · have e1 : decide (0 ≤ (rd_T44 l i).f0) = true := decide_eq_true (by omega)
            have e2 : decide ((rd_T44 l i).f0 ≤ 1099511627776) = true := decide_eq_true (by omega)
            have e3 : decide (0 ≤ (rd_T44 l i).f1) = true := decide_eq_true (by omega)
            have e4 : decide ((rd_T44 l i).f1 ≤ 4096) = true := decide_eq_true (by omega)
            rw [if_neg h1, if_neg h2, if_neg h3, if_neg h4]
            simp only [e1, e2, e3, e4, Bool.and_self, Bool.true_and]
            rfl

theorem check_f (l : List S44) {k : Nat} (hk : 60 ≤ k) : iov_check.f k [l] = some (chk (prs l)) := by
  have hrd : rd_L4 [l] 0 = l := rfl
  have hw : wrap64 (0 + 1) = 1 := by unfold wrap64; omega
  have hw1 : wrap64 1 = 1 := by unfold wrap64; omega
  by_cases h : l.length ≤ 16
  · obtain ⟨e, rfl⟩ : ∃ e, k = (e + 1 + 1 + 1 + 1 + l.length) + 1 + 1 + 1 := ⟨k - 7 - l.length, by omega⟩
    have hn : ¬ ((l.length : Int) > 16) := by omega
    have hl2 := check_l2 l h [l] [l] 1 0 l.length (e + 1 + 1 + 1) 0 (by omega)
    have s1 : iov_check.f ((e + 1 + 1 + 1 + 1 + l.length) + 1 + 1 + 1) [l] = iov_check.l2 (e + 1 + 1 + 1 + 1 + l.length) [l] [l] 1 0 l l.length 0 := by
      simp [iov_check.f, iov_check.l0, iov_check.l1, hrd, hn, hw1]
    rw [s1]
    rw [show ((0 : Nat) : Int) = 0 from rfl] at hl2
    rw [hl2, List.drop_zero, chk, prs_length, if_neg (show ¬ 16 < l.length by omega)]
    by_cases hok : okB (prs l) = true
    · have ht := total_f (l := l) (k := e + 1) (okB_iff.1 hok) h (by omega)
      rw [if_pos hok, if_pos hok, hw]
      by_cases hs : sumL (prs l) > 4096
      · simp [iov_check.l1, iov_check.l3, hrd, ht, hs]
      · simp [iov_check.l1, iov_check.l3, hrd, ht, hs, hw1]
    · rw [if_neg hok, if_neg hok]
  · obtain ⟨m, rfl⟩ : ∃ m, k = m + 1 := ⟨k - 1, by omega⟩
    have hn : (l.length : Int) > 16 := by omega
    simp only [iov_check.f, iov_check.l0, List.length_cons, List.length_nil, hrd, chk, prs_length, if_pos hn, show 16 < l.length by omega, if_true]
    simp

/-- within's answer. -/
def wth (l : List (Int × Int)) (off n : Int) : Int := if chk l = 0 then (if off < 0 ∨ n < 0 ∨ sumL l < off ∨ sumL l - off < n then 34 else 0) else chk l
theorem chk_zero {l : List (Int × Int)} (h : chk l = 0) : okP l ∧ l.length ≤ 16 ∧ 0 ≤ sumL l ∧ sumL l ≤ 4096 := by
  unfold chk at h
  split at h
  · cases h
  · split at h
    · rename_i h1 h2
      have h3 := okB_iff.1 h2
      have := sumL_bound h3
      split at h
      · cases h
      · exact ⟨h3, by omega, by omega, by omega⟩
    · cases h
theorem within_f (l : List S44) (off n : Int) {k : Nat} (hk : 60 ≤ k) : iov_within.f k l off n = some (wth (prs l) off n) := by
  rw [iov_within.f, check_f l hk, Option.bind_some, wth]
  by_cases h : chk (prs l) = 0
  · obtain ⟨h1, h2, h3, h4⟩ := chk_zero h
    rw [if_pos h, if_pos h, total_f h1 (by rw [← prs_length]; exact h2) (by omega), Option.bind_some]
    by_cases a : off < 0
    · simp [a]
    · by_cases b : n < 0
      · simp [a, b]
      · by_cases c : off > sumL (prs l)
        · simp [a, b, c]
        · rw [w64 (x := sumL (prs l) - off) (by omega) (by omega)]
          by_cases d : n > sumL (prs l) - off
          · simp [a, b, c, d]
          · rw [if_neg a, if_neg b, if_neg c, if_neg d, if_neg (by omega)]
  · rw [if_neg h, if_neg h]
end Go.Proofs.Ytbojagkalbfenaa
