import Derived.Test.YtbojagkalbfenaaPIovGatherx1
import Derived.Test.YtbojagkalbfenaaqA
import Derived.Test.YtbojagkalbfenaaPIovGatherx3
namespace Go.Proofs.Ytbojagkalbfenaa
set_option linter.unusedSimpArgs false
open Go.RowKit PIovGather

def prs (l : List S44) : List (Int × Int) := l.map fun x => (x.f0, x.f1)
theorem prs_length (l : List S44) : (prs l).length = l.length := by simp [prs]
def sumL : List (Int × Int) → Int
  | [] => 0
  | p :: r => p.2 + sumL r
theorem sumL_append (a b : List (Int × Int)) : sumL (a ++ b) = sumL a + sumL b := by
  induction a with
  | nil => simp [sumL]
  | cons x r ih => simp only [List.cons_append, sumL, ih]; omega
theorem sumL_bound {l : List (Int × Int)} (h : okP l) : 0 ≤ sumL l ∧ sumL l ≤ 4096 * l.length := by
  induction l with
  | nil => simp [sumL]
  | cons x r ih =>
    have h1 := ih (fun q hq => h q (List.mem_cons_of_mem _ hq))
    have h2 := (h x List.mem_cons_self).2
    simp only [sumL, List.length_cons]
    omega
theorem w64 {x : Int} (h0 : -9223372036854775808 ≤ x) (h1 : x ≤ 9223372036854775807) : wrap64 x = x := by unfold wrap64; omega
theorem rd_prs (l : List S44) (i : Nat) (h : i < l.length) : (prs l).drop i = ((rd_T44 l i).f0, (rd_T44 l i).f1) :: (prs l).drop (i + 1) := by
  rw [drop_cons (by rw [prs_length]; exact h)]
  simp [prs, rd_T44, List.getD_eq_getElem?_getD, List.getElem?_eq_getElem h]

theorem total_l0 (l : List S44) (hok : okP (prs l)) (hl : l.length ≤ 16) : ∀ (n k i : Nat) (acc : Int), i + n = l.length → n < k → 0 ≤ acc → acc ≤ 4096 * i → iov_total.l0 k acc l l.length i = some (acc + sumL ((prs l).drop i))
  | 0, k + 1, i, acc, hi, _, h0, h1 => by
    have : ¬ ((i : Int) < (l.length : Int)) := by omega
    simp only [iov_total.l0, this, if_false]
    rw [List.drop_eq_nil_of_le (by rw [prs_length]; omega)]
    simp [sumL]
  | n + 1, k + 1, i, acc, hi, hk, h0, h1 => by
    have hlt : i < l.length := by omega
    have hd := rd_prs l i hlt
    have hb := hok ((rd_T44 l i).f0, (rd_T44 l i).f1) (List.mem_of_mem_drop (by rw [hd]; exact List.mem_cons_self))
    simp only at hb
    simp only [iov_total.l0, show (i : Int) < (l.length : Int) by omega, show (0 : Int) ≤ (i : Int) by omega, if_true]
    rw [w64 (x := (i : Int) + 1) (by omega) (by omega), w64 (x := acc + (rd_T44 l i).f1) (by omega) (by omega)]
    have := total_l0 l hok hl n k (i + 1) (acc + (rd_T44 l i).f1) (by omega) (by omega) (by omega) (by omega)
    rw [show ((i + 1 : Nat) : Int) = (i : Int) + 1 by omega] at this
    rw [this, hd]
    simp only [sumL]
    congr 1
    omega
theorem total_f {l : List S44} (hok : okP (prs l)) (hl : l.length ≤ 16) {k : Nat} (hk : 20 ≤ k) : iov_total.f k l = some (sumL (prs l)) := by
  have := total_l0 l hok hl l.length k 0 0 (by omega) (by omega) (by omega) (by omega)
  simpa [iov_total.f] using this
end Go.Proofs.Ytbojagkalbfenaa
namespace Go.Proofs.Ytbojagkalbfenaa
set_option linter.unusedSimpArgs false
open Go.RowKit PIovGather

def okB1 (p : Int × Int) : Bool := decide (0 ≤ p.1) && decide (p.1 ≤ 1099511627776) && decide (0 ≤ p.2) && decide (p.2 ≤ 4096)
def okB (l : List (Int × Int)) : Bool := l.all okB1
theorem okB_iff {l : List (Int × Int)} : okB l = true ↔ okP l := by
  simp only [okB, okB1, okP, List.all_eq_true, Bool.and_eq_true, decide_eq_true_eq]
  constructor
  · intro h p hp; have := h p hp; omega
  · intro h p hp; have := h p hp; omega
/-- The code of a list: Check's answer. -/
def chk (l : List (Int × Int)) : Int := if 16 < l.length then 18 else if okB l = true then (if 4096 < sumL l then 20 else 0) else 34

theorem check_l2 (l : List S44) (hl : l.length ≤ 16) (x0 x21 : List (List S44)) (x22 x23 : Int) : ∀ (n m i : Nat), i + n = l.length →
    iov_check.l2 (m + 1 + n) x0 x21 x22 x23 l l.length i = if okB ((prs l).drop i) = true then iov_check.l1 m x0 x21 x22 (wrap64 (x23 + 1)) else some 34
  | 0, m, i, hi => by
    have : ¬ ((i : Int) < (l.length : Int)) := by omega
    simp only [Nat.add_zero, iov_check.l2, this, if_false]
    rw [List.drop_eq_nil_of_le (by rw [prs_length]; omega)]
    simp [okB]
  | n + 1, m, i, hi => by
    have hlt : i < l.length := by omega
    have hd := rd_prs l i hlt
    have ih := check_l2 l hl x0 x21 x22 x23 n m (i + 1) (by omega)
    rw [show ((i + 1 : Nat) : Int) = (i : Int) + 1 by omega] at ih
    rw [show m + 1 + (n + 1) = (m + 1 + n) + 1 by omega]
    simp only [iov_check.l2, show (i : Int) < (l.length : Int) by omega, show (0 : Int) ≤ (i : Int) by omega, if_true]
    rw [w64 (x := (i : Int) + 1) (by omega) (by omega), ih, hd]
    simp only [okB, List.all_cons, okB1]
    by_cases h1 : (rd_T44 l i).f0 < 0
    · simp [h1, show ¬ (0 ≤ (rd_T44 l i).f0) by omega]
    · by_cases h2 : (rd_T44 l i).f0 > 1099511627776
      · simp [h1, h2, show ¬ ((rd_T44 l i).f0 ≤ 1099511627776) by omega]
      · by_cases h3 : (rd_T44 l i).f1 < 0
        · simp [h1, h2, h3, show ¬ (0 ≤ (rd_T44 l i).f1) by omega]
        · by_cases h4 : (rd_T44 l i).f1 > 4096
          · simp [h1, h2, h3, h4, show ¬ ((rd_T44 l i).f1 ≤ 4096) by omega]
          · have e1 : decide (0 ≤ (rd_T44 l i).f0) = true := decide_eq_true (by omega)
            have e2 : decide ((rd_T44 l i).f0 ≤ 1099511627776) = true := decide_eq_true (by omega)
            have e3 : decide (0 ≤ (rd_T44 l i).f1) = true := decide_eq_true (by omega)
            have e4 : decide ((rd_T44 l i).f1 ≤ 4096) = true := decide_eq_true (by omega)
            rw [if_neg h1, if_neg h2, if_neg h3, if_neg h4]
            simp only [e1, e2, e3, e4, Bool.and_self, Bool.true_and]
            rfl

theorem check_f (l : List S44) {k : Nat} (hk : 60 ≤ k) : iov_check.f k [l] = some (chk (prs l)) := by
  have hrd : rd_L4 [l] 0 = l := rfl
  have hw : wrap64 (0 + 1) = 1 := by unfold wrap64; omega
  have hw1 : wrap64 1 = 1 := by unfold wrap64; omega
  by_cases h : l.length ≤ 16
  · obtain ⟨e, rfl⟩ : ∃ e, k = (e + 1 + 1 + 1 + 1 + l.length) + 1 + 1 + 1 := ⟨k - 7 - l.length, by omega⟩
    have hn : ¬ ((l.length : Int) > 16) := by omega
    have hl2 := check_l2 l h [l] [l] 1 0 l.length (e + 1 + 1 + 1) 0 (by omega)
    have s1 : iov_check.f ((e + 1 + 1 + 1 + 1 + l.length) + 1 + 1 + 1) [l] = iov_check.l2 (e + 1 + 1 + 1 + 1 + l.length) [l] [l] 1 0 l l.length 0 := by
      simp [iov_check.f, iov_check.l0, iov_check.l1, hrd, hn, hw1]
    rw [s1]
    rw [show ((0 : Nat) : Int) = 0 from rfl] at hl2
    rw [hl2, List.drop_zero, chk, prs_length, if_neg (show ¬ 16 < l.length by omega)]
    by_cases hok : okB (prs l) = true
    · have ht := total_f (l := l) (k := e + 1) (okB_iff.1 hok) h (by omega)
      rw [if_pos hok, if_pos hok, hw]
      by_cases hs : sumL (prs l) > 4096
      · simp [iov_check.l1, iov_check.l3, hrd, ht, hs]
      · simp [iov_check.l1, iov_check.l3, hrd, ht, hs, hw1]
    · rw [if_neg hok, if_neg hok]
  · obtain ⟨m, rfl⟩ : ∃ m, k = m + 1 := ⟨k - 1, by omega⟩
    have hn : (l.length : Int) > 16 := by omega
    simp only [iov_check.f, iov_check.l0, List.length_cons, List.length_nil, hrd, chk, prs_length, if_pos hn, show 16 < l.length by omega, if_true]
    simp

/-- within's answer. -/
def wth (l : List (Int × Int)) (off n : Int) : Int := if chk l = 0 then (if off < 0 ∨ n < 0 ∨ sumL l < off ∨ sumL l - off < n then 34 else 0) else chk l
theorem chk_zero {l : List (Int × Int)} (h : chk l = 0) : okP l ∧ l.length ≤ 16 ∧ 0 ≤ sumL l ∧ sumL l ≤ 4096 := by
  unfold chk at h
  split at h
  · cases h
  · split at h
    · rename_i h1 h2
      have h3 := okB_iff.1 h2
      have := sumL_bound h3
      split at h
      · cases h
      · exact ⟨h3, by omega, by omega, by omega⟩
    · cases h
theorem within_f (l : List S44) (off n : Int) {k : Nat} (hk : 60 ≤ k) : iov_within.f k l off n = some (wth (prs l) off n) := by
  rw [iov_within.f, check_f l hk, Option.bind_some, wth]
  by_cases h : chk (prs l) = 0
  · obtain ⟨h1, h2, h3, h4⟩ := chk_zero h
    rw [if_pos h, if_pos h, total_f h1 (by rw [← prs_length]; exact h2) (by omega), Option.bind_some]
    by_cases a : off < 0
    · simp [a]
    · by_cases b : n < 0
      · simp [a, b]
      · by_cases c : off > sumL (prs l)
        · simp [a, b, c]
        · rw [w64 (x := sumL (prs l) - off) (by omega) (by omega)]
          by_cases d : n > sumL (prs l) - off
          · simp [a, b, c, d]
          · rw [if_neg a, if_neg b, if_neg c, if_neg d, if_neg (by omega)]
  · rw [if_neg h, if_neg h]
end Go.Proofs.Ytbojagkalbfenaa
namespace Go.Proofs.Ytbojagkalbfenaa
set_option linter.unusedVariables false
set_option linter.unusedSimpArgs false
open Go.RowKit PIovGather Go.Proofs.YtbojagkalbfenaaW.PrintWords

/-- check's answer for two lists: of each kind of error the lists are asked in order. -/
def chk2 (l r : List (Int × Int)) : Int := if 16 < l.length ∨ 16 < r.length then 18 else if okB l = true ∧ okB r = true then (if 4096 < sumL l ∨ 4096 < sumL r then 20 else 0) else 34
theorem check2_f (l r : List S44) {k : Nat} (hk : 120 ≤ k) : iov_check.f k [l, r] = some (chk2 (prs l) (prs r)) := by
  have hrd0 : rd_L4 [l, r] 0 = l := rfl
  have hrd1 : rd_L4 [l, r] 1 = r := rfl
  have hw : wrap64 (0 + 1) = 1 := by unfold wrap64; omega
  have hw1 : wrap64 1 = 1 := by unfold wrap64; omega
  have hw2 : wrap64 (1 + 1) = 2 := by unfold wrap64; omega
  have hw3 : wrap64 2 = 2 := by unfold wrap64; omega
  by_cases h : l.length ≤ 16
  · by_cases h' : r.length ≤ 16
    · obtain ⟨e, rfl⟩ : ∃ e, k = (((e + 1 + 1 + 1 + 1) + 1 + r.length) + 1 + 1 + l.length) + 1 + 1 + 1 + 1 := ⟨k - 11 - l.length - r.length, by omega⟩
      have hn : ¬ ((l.length : Int) > 16) := by omega
      have hn' : ¬ ((r.length : Int) > 16) := by omega
      have hl2 := check_l2 l h [l, r] [l, r] 2 0 l.length (((e + 1 + 1 + 1 + 1) + 1 + r.length) + 1) 0 (by omega)
      have hr2 := check_l2 r h' [l, r] [l, r] 2 1 r.length (e + 1 + 1 + 1 + 1) 0 (by omega)
      have s1 : iov_check.f ((((e + 1 + 1 + 1 + 1) + 1 + r.length) + 1 + 1 + l.length) + 1 + 1 + 1 + 1) [l, r] = iov_check.l2 (((e + 1 + 1 + 1 + 1) + 1 + r.length) + 1 + 1 + l.length) [l, r] [l, r] 2 0 l l.length 0 := by
        simp [iov_check.f, iov_check.l0, iov_check.l1, hrd0, hrd1, hn, hn', hw1, hw2, hw3]
      rw [s1]
      rw [show ((0 : Nat) : Int) = 0 from rfl] at hl2 hr2
      rw [hl2, List.drop_zero, chk2, prs_length, prs_length, if_neg (show ¬ (16 < l.length ∨ 16 < r.length) by omega)]
      by_cases hok : okB (prs l) = true
      · rw [if_pos hok, hw]
        have s2 : iov_check.l1 (((e + 1 + 1 + 1 + 1) + 1 + r.length) + 1) [l, r] [l, r] 2 1 = iov_check.l2 ((e + 1 + 1 + 1 + 1) + 1 + r.length) [l, r] [l, r] 2 1 r r.length 0 := by
          simp [iov_check.l1, hrd1]
        rw [s2, hr2, List.drop_zero]
        by_cases hok' : okB (prs r) = true
        · have ht := total_f (l := l) (k := e + 1 + 1) (okB_iff.1 hok) h (by omega)
          have ht' := total_f (l := r) (k := e + 1) (okB_iff.1 hok') h' (by omega)
          rw [if_pos hok', if_pos ⟨hok, hok'⟩, hw2]
          by_cases hs : sumL (prs l) > 4096
          · simp [iov_check.l1, iov_check.l3, hrd0, ht, hs]
          · by_cases hs' : sumL (prs r) > 4096
            · simp [iov_check.l1, iov_check.l3, hrd0, hrd1, ht, ht', hs, hs', hw1]
            · simp [iov_check.l1, iov_check.l3, hrd0, hrd1, ht, ht', hs, hs', hw1, hw2, hw3]
        · rw [if_neg hok', if_neg (fun h => hok' h.2)]
      · rw [if_neg hok, if_neg (fun h => hok h.1)]
    · obtain ⟨m, rfl⟩ : ∃ m, k = m + 1 + 1 := ⟨k - 2, by omega⟩
      have hn : ¬ ((l.length : Int) > 16) := by omega
      have hn' : (r.length : Int) > 16 := by omega
      simp [iov_check.f, iov_check.l0, hrd0, hrd1, hn, hn', hw1, chk2, prs_length, show 16 < r.length by omega]
  · obtain ⟨m, rfl⟩ : ∃ m, k = m + 1 := ⟨k - 1, by omega⟩
    have hn : (l.length : Int) > 16 := by omega
    simp [iov_check.f, iov_check.l0, hrd0, hn, chk2, prs_length, show 16 < l.length by omega]
theorem chk2_zero {l r : List (Int × Int)} (h : chk2 l r = 0) : chk l = 0 ∧ chk r = 0 := by
  unfold chk2 at h
  split at h
  · cases h
  · rename_i h1
    split at h
    · rename_i h2
      split at h
      · cases h
      · rename_i h3
        refine ⟨?_, ?_⟩
        · unfold chk; rw [if_neg (by omega), if_pos h2.1, if_neg (by omega)]
        · unfold chk; rw [if_neg (by omega), if_pos h2.2, if_neg (by omega)]
    · cases h
end Go.Proofs.Ytbojagkalbfenaa
namespace Go.Proofs.Ytbojagkalbfenaa
set_option linter.unusedSimpArgs false
open Go.RowKit PIovGather

/-- The reference's slice, in the order of the parts. -/
def sliceR : List (Int × Int) → Int → Int → Int → List (Int × Int)
  | [], _, _, _ => []
  | p :: r, pos, off, n => if max off pos < min (off + n) (pos + p.2) then (p.1 + max off pos - pos, min (off + n) (pos + p.2) - max off pos) :: sliceR r (pos + p.2) off n else sliceR r (pos + p.2) off n
theorem slicedL_none (l : List (Int × Int)) (off : Int) {m : Int} (h : m ≤ 0) : slicedL l off m = [] := by
  cases l with
  | nil => rfl
  | cons p r => simp [slicedL, h]
theorem sliceR_eq : ∀ (l : List (Int × Int)) (pos off n : Int), (∀ p ∈ l, 0 ≤ p.2) → 0 ≤ off → 0 ≤ n → sliceR l pos off n = slicedL l (max (off - pos) 0) (n - max (pos - off) 0)
  | [], _, _, _, _, _, _ => by simp [sliceR, slicedL]
  | p :: r, pos, off, n, h, h0, h1 => by
    have hp := h p List.mem_cons_self
    have ih := sliceR_eq r (pos + p.2) off n (fun q hq => h q (List.mem_cons_of_mem _ hq)) h0 h1
    simp only [sliceR, slicedL, ih]
    by_cases hm : n - max (pos - off) 0 ≤ 0
    · rw [if_pos hm, if_neg (by omega), slicedL_none _ _ (by omega)]
    · rw [if_neg hm]
      by_cases hq : p.2 ≤ max (off - pos) 0
      · rw [if_pos hq, if_neg (by omega)]
        congr 1 <;> omega
      · rw [if_neg hq, if_pos (by omega)]
        congr 1
        · rw [Prod.mk.injEq]; constructor <;> omega
        · by_cases hz : n - max (pos + p.2 - off) 0 ≤ 0
          · rw [slicedL_none _ _ hz, slicedL_none _ _ (by omega)]
          · congr 1 <;> omega
theorem sliceR_slicedL {l : List (Int × Int)} (h : okP l) {off n : Int} (h0 : 0 ≤ off) (h1 : 0 ≤ n) : sliceR l 0 off n = slicedL l off n := by
  rw [sliceR_eq l 0 off n (fun p hp => (h p hp).2.1) h0 h1]
  congr 1 <;> omega

theorem rlen_l0 (l : List S44) (hl : l.length ≤ 16) : ∀ (n k i : Nat) (acc : Int), i + n = l.length → n < k → 0 ≤ acc → acc ≤ 4096 * i →
    orpimentref09_Length.l0 k l acc i = some (if okB ((prs l).drop i) = true then (if 4096 < acc + sumL ((prs l).drop i) then (0, 20) else (acc + sumL ((prs l).drop i), 0)) else (0, 34))
  | 0, k + 1, i, acc, hi, _, h0, h1 => by
    have : ¬ ((i : Int) < (l.length : Int)) := by omega
    simp only [orpimentref09_Length.l0, this, if_false]
    rw [List.drop_eq_nil_of_le (by rw [prs_length]; omega)]
    simp only [okB, List.all_nil, if_true, sumL, Int.add_zero]
    split <;> rfl
  | n + 1, k + 1, i, acc, hi, hk, h0, h1 => by
    have hlt : i < l.length := by omega
    have hd := rd_prs l i hlt
    simp only [orpimentref09_Length.l0, show (i : Int) < (l.length : Int) by omega, show (0 : Int) ≤ (i : Int) by omega, if_true]
    rw [hd]
    by_cases g1 : (rd_T44 l i).f0 < 0
    · simp [okB, okB1, g1, show ¬ (0 ≤ (rd_T44 l i).f0) by omega]
    · by_cases g2 : (rd_T44 l i).f0 > 1099511627776
      · simp [okB, okB1, g1, g2, show ¬ ((rd_T44 l i).f0 ≤ 1099511627776) by omega]
      · by_cases g3 : (rd_T44 l i).f1 < 0
        · simp [okB, okB1, g1, g2, g3, show ¬ (0 ≤ (rd_T44 l i).f1) by omega]
        · by_cases g4 : (rd_T44 l i).f1 > 4096
          · simp [okB, okB1, g1, g2, g3, g4, show ¬ ((rd_T44 l i).f1 ≤ 4096) by omega]
          · have e1 : decide (0 ≤ (rd_T44 l i).f0) = true := decide_eq_true (by omega)
            have e2 : decide ((rd_T44 l i).f0 ≤ 1099511627776) = true := decide_eq_true (by omega)
            have e3 : decide (0 ≤ (rd_T44 l i).f1) = true := decide_eq_true (by omega)
            have e4 : decide ((rd_T44 l i).f1 ≤ 4096) = true := decide_eq_true (by omega)
            have ih := rlen_l0 l hl n k (i + 1) (acc + (rd_T44 l i).f1) (by omega) (by omega) (by omega) (by omega)
            rw [show ((i + 1 : Nat) : Int) = (i : Int) + 1 by omega] at ih
            rw [if_neg g1, if_neg g2, if_neg g3, if_neg g4, w64 (x := (i : Int) + 1) (by omega) (by omega), w64 (x := acc + (rd_T44 l i).f1) (by omega) (by omega), ih]
            simp only [okB, okB1, List.all_cons, e1, e2, e3, e4, Bool.and_self, Bool.true_and, sumL]
            rw [show acc + (rd_T44 l i).f1 + sumL ((prs l).drop (i + 1)) = acc + ((rd_T44 l i).f1 + sumL ((prs l).drop (i + 1))) by omega]
            rfl
theorem rlen_f (l : List S44) {k : Nat} (hk : 60 ≤ k) : orpimentref09_Length.f k l = some (if chk (prs l) = 0 then sumL (prs l) else 0, chk (prs l)) := by
  unfold orpimentref09_Length.f
  by_cases h : l.length ≤ 16
  · have hc : chk (prs l) = if okB (prs l) = true then (if 4096 < sumL (prs l) then 20 else 0) else 34 := by
      unfold chk
      rw [prs_length, if_neg (by omega)]
    have := rlen_l0 l h l.length k 0 0 (by omega) (by omega) (by omega) (by omega)
    rw [show ((0 : Nat) : Int) = 0 from rfl, List.drop_zero, Int.zero_add] at this
    rw [hc, if_neg (by omega), this]
    by_cases g : okB (prs l) = true
    · simp only [g, if_true]
      by_cases g2 : 4096 < sumL (prs l)
      · simp [g2]
      · simp [g2]
    · simp [g]
  · have hc : chk (prs l) = 18 := by
      unfold chk
      rw [prs_length, if_pos (by omega)]
    rw [hc, if_pos (by omega)]
    rfl
end Go.Proofs.Ytbojagkalbfenaa
namespace Go.Proofs.Ytbojagkalbfenaa
set_option linter.unusedSimpArgs false
open Go.RowKit PIovGather Go.Proofs.YtbojagkalbfenaaW.PrintWords

theorem rslice_l0 (l : List S44) (hok : okP (prs l)) (hl : l.length ≤ 16) (off n : Int) (ho : 0 ≤ off ∧ off ≤ 65536) (hn : 0 ≤ n ∧ n ≤ 65536) : ∀ (c k i : Nat) (pos : Int) (out : List S44), i + c = l.length → c < k → 0 ≤ pos → pos ≤ 4096 * i → out.length ≤ i →
    ∃ r, orpimentref09_Slice.l0 k l off n out pos i = some (r, 0) ∧ prs r = prs out ++ sliceR ((prs l).drop i) pos off n
  | 0, k + 1, i, pos, out, hi, _, h0, h1, _ => by
    have : ¬ ((i : Int) < (l.length : Int)) := by omega
    simp only [orpimentref09_Slice.l0, this, if_false]
    rw [List.drop_eq_nil_of_le (by rw [prs_length]; omega)]
    exact ⟨_, rfl, by simp [sliceR]⟩
  | c + 1, k + 1, i, pos, out, hi, hk, h0, h1, h2 => by
    have hlt : i < l.length := by omega
    have hd := rd_prs l i hlt
    have hb := hok ((rd_T44 l i).f0, (rd_T44 l i).f1) (List.mem_of_mem_drop (by rw [hd]; exact List.mem_cons_self))
    simp only at hb
    have e1 : mx off pos = max off pos := by unfold mx; omega
    have e2 : mn (wrap64 (off + n)) (wrap64 (pos + (rd_T44 l i).f1)) = min (off + n) (pos + (rd_T44 l i).f1) := by
      rw [w64 (x := off + n) (by omega) (by omega), w64 (x := pos + (rd_T44 l i).f1) (by omega) (by omega)]; unfold mn; omega
    simp only [orpimentref09_Slice.l0, show (i : Int) < (l.length : Int) by omega, show (0 : Int) ≤ (i : Int) by omega, if_true, e1, e2]
    rw [w64 (x := (i : Int) + 1) (by omega) (by omega), w64 (x := pos + (rd_T44 l i).f1) (by omega) (by omega), hd]
    simp only [sliceR]
    by_cases g : max off pos < min (off + n) (pos + (rd_T44 l i).f1)
    · rw [if_pos g, if_pos g, if_pos (by omega)]
      rw [w64 (x := (rd_T44 l i).f0 + max off pos) (by omega) (by omega), w64 (x := (rd_T44 l i).f0 + max off pos - pos) (by omega) (by omega), w64 (x := min (off + n) (pos + (rd_T44 l i).f1) - max off pos) (by omega) (by omega)]
      obtain ⟨r, hr, hp⟩ := rslice_l0 l hok hl off n ho hn c k (i + 1) (pos + (rd_T44 l i).f1) (out ++ [⟨(rd_T44 l i).f0 + max off pos - pos, min (off + n) (pos + (rd_T44 l i).f1) - max off pos⟩]) (by omega) (by omega) (by omega) (by omega) (by simp; omega)
      exact ⟨r, hr, by rw [hp]; simp [prs]⟩
    · rw [if_neg g, if_neg g]
      exact rslice_l0 l hok hl off n ho hn c k (i + 1) (pos + (rd_T44 l i).f1) out (by omega) (by omega) (by omega) (by omega) (by omega)

theorem rslice_f (l : List S44) (off n : Int) {k : Nat} (hk : 60 ≤ k) :
    ∃ r, orpimentref09_Slice.f k l off n = some (r, wth (prs l) off n) ∧ prs r = if wth (prs l) off n = 0 then slicedL (prs l) off n else [] := by
  rw [orpimentref09_Slice.f, rlen_f l hk, Option.bind_some, wth]
  by_cases h : chk (prs l) = 0
  · obtain ⟨h1, h2, h3, h4⟩ := chk_zero h
    obtain ⟨m, rfl⟩ : ∃ m, k = m + 1 := ⟨k - 1, by omega⟩
    simp only [h, if_true, orpimentref09_Slice.j0]
    by_cases a : off < 0
    · exact ⟨[], by rw [if_pos (show off < 0 ∨ n < 0 ∨ sumL (prs l) < off ∨ sumL (prs l) - off < n by omega)]; simp [a], by rw [if_pos (show off < 0 ∨ n < 0 ∨ sumL (prs l) < off ∨ sumL (prs l) - off < n by omega)]; simp [prs]⟩
    · by_cases b : n < 0
      · exact ⟨[], by rw [if_pos (show off < 0 ∨ n < 0 ∨ sumL (prs l) < off ∨ sumL (prs l) - off < n by omega)]; simp [a, b], by rw [if_pos (show off < 0 ∨ n < 0 ∨ sumL (prs l) < off ∨ sumL (prs l) - off < n by omega)]; simp [prs]⟩
      · by_cases c : off > sumL (prs l)
        · exact ⟨[], by rw [if_pos (show off < 0 ∨ n < 0 ∨ sumL (prs l) < off ∨ sumL (prs l) - off < n by omega)]; simp [a, b, c], by rw [if_pos (show off < 0 ∨ n < 0 ∨ sumL (prs l) < off ∨ sumL (prs l) - off < n by omega)]; simp [prs]⟩
        · rw [w64 (x := sumL (prs l) - off) (by omega) (by omega)]
          by_cases d : n > sumL (prs l) - off
          · exact ⟨[], by rw [if_pos (show off < 0 ∨ n < 0 ∨ sumL (prs l) < off ∨ sumL (prs l) - off < n by omega)]; simp [a, b, c, d], by rw [if_pos (show off < 0 ∨ n < 0 ∨ sumL (prs l) < off ∨ sumL (prs l) - off < n by omega)]; simp [prs]⟩
          · obtain ⟨r, hr, hp⟩ := rslice_l0 l h1 (by rw [← prs_length]; exact h2) off n (by omega) (by omega) l.length m 0 0 [] (by omega) (by rw [prs_length] at h2; omega) (by omega) (by omega) (by simp)
            refine ⟨r, ?_, ?_⟩
            · rw [show ((0 : Nat) : Int) = 0 from rfl] at hr
              rw [if_neg a, if_neg b, if_neg c, if_neg (show ¬ (off < 0 ∨ n < 0 ∨ sumL (prs l) < off ∨ sumL (prs l) - off < n) by omega)]
              simp [d, hr]
            · rw [if_neg (show ¬ (off < 0 ∨ n < 0 ∨ sumL (prs l) < off ∨ sumL (prs l) - off < n) by omega), if_pos rfl, hp, List.drop_zero, sliceR_slicedL h1 (by omega) (by omega)]
              simp [prs]
  · simp only [h, if_false]
    exact ⟨[], rfl, by simp [prs]⟩
end Go.Proofs.Ytbojagkalbfenaa
namespace Go.Proofs.Ytbojagkalbfenaa
set_option linter.unusedSimpArgs false
open Go.RowKit PIovGather Go.Proofs.YtbojagkalbfenaaW.PrintWords

def seg (a : Int) : Nat → List Int
  | 0 => []
  | c + 1 => a :: seg (a + 1) c
theorem seg_length (a : Int) (c : Nat) : (seg a c).length = c := by
  induction c generalizing a with
  | zero => rfl
  | succ c ih => simp [seg, ih]
def addrs (l : List (Int × Int)) : List Int := l.flatMap fun x => seg x.1 x.2.toNat
/-- What a reference's list of parts may be. -/
def fine (l : List (Int × Int)) : Prop := l.length ≤ 16 ∧ ∀ x ∈ l, (0 ≤ x.1 ∧ x.1 ≤ 1099511631872) ∧ 1 ≤ x.2 ∧ x.2 ≤ 4096
theorem fine_sliced {l : List (Int × Int)} (h : okP l) (hl : l.length ≤ 16) {off n : Int} (h0 : 0 ≤ off) : fine (slicedL l off n) :=
  ⟨Nat.le_trans (slicedL_length l off n) hl, slicedL_mem h h0⟩

theorem addrs_l1 (r : List S44) (hf : fine (prs r)) (i : Nat) (hi : i < r.length) : ∀ (c m j : Nat) (out : List Int), j + c = (rd_T44 r i).f1.toNat → out.length + c ≤ 1000000 →
    orpimentref09_addresses.l1 (m + 1 + c) r out i j = orpimentref09_addresses.l0 m r (out ++ seg ((rd_T44 r i).f0 + j) c) ((i + 1 : Nat) : Int)
  | 0, m, j, out, hj, ho => by
    have hd := rd_prs r i hi
    have hl := hf.1
    rw [prs_length] at hl
    have hb := hf.2 ((rd_T44 r i).f0, (rd_T44 r i).f1) (List.mem_of_mem_drop (by rw [hd]; exact List.mem_cons_self))
    simp only at hb
    simp only [Nat.add_zero, orpimentref09_addresses.l1, show (0 : Int) ≤ (i : Int) by omega, show (i : Int) < (r.length : Int) by omega, show ¬ ((j : Int) < (rd_T44 r i).f1) by omega, if_true, if_false, seg, List.append_nil]
    rw [w64 (x := (i : Int) + 1) (by omega) (by omega)]
    rfl
  | c + 1, m, j, out, hj, ho => by
    have hd := rd_prs r i hi
    have hl := hf.1
    rw [prs_length] at hl
    have hb := hf.2 ((rd_T44 r i).f0, (rd_T44 r i).f1) (List.mem_of_mem_drop (by rw [hd]; exact List.mem_cons_self))
    simp only at hb
    have ih := addrs_l1 r hf i hi c m (j + 1) (out ++ [(rd_T44 r i).f0 + j]) (by omega) (by simp; omega)
    rw [show m + 1 + (c + 1) = (m + 1 + c) + 1 by omega]
    simp only [orpimentref09_addresses.l1, show (0 : Int) ≤ (i : Int) by omega, show (i : Int) < (r.length : Int) by omega, show (j : Int) < (rd_T44 r i).f1 by omega, if_true]
    rw [if_pos (by omega), w64 (x := (j : Int) + 1) (by omega) (by omega), w64 (x := (rd_T44 r i).f0 + (j : Int)) (by omega) (by omega)]
    rw [show ((j + 1 : Nat) : Int) = (j : Int) + 1 by omega] at ih
    rw [ih]
    simp only [seg, List.append_assoc, List.singleton_append]
    rw [show (rd_T44 r i).f0 + ((j : Int) + 1) = (rd_T44 r i).f0 + (j : Int) + 1 by omega]

theorem addrs_l0 (r : List S44) (hf : fine (prs r)) : ∀ (c k i : Nat) (out : List Int), i + c = r.length → 4098 * c < k → out.length ≤ 4096 * i →
    orpimentref09_addresses.l0 k r out i = some (out ++ addrs ((prs r).drop i))
  | 0, k + 1, i, out, hi, _, _ => by
    simp only [orpimentref09_addresses.l0, show ¬ ((i : Int) < (r.length : Int)) by omega, if_false]
    rw [List.drop_eq_nil_of_le (by rw [prs_length]; omega)]
    simp [addrs]
  | c + 1, k + 1, i, out, hi, hk, ho => by
    have hlt : i < r.length := by omega
    have hd := rd_prs r i hlt
    have hl := hf.1
    rw [prs_length] at hl
    have hb := hf.2 ((rd_T44 r i).f0, (rd_T44 r i).f1) (List.mem_of_mem_drop (by rw [hd]; exact List.mem_cons_self))
    simp only at hb
    have h1 := addrs_l1 r hf i hlt (rd_T44 r i).f1.toNat (k - 1 - (rd_T44 r i).f1.toNat) 0 out (by omega) (by omega)
    rw [show k - 1 - (rd_T44 r i).f1.toNat + 1 + (rd_T44 r i).f1.toNat = k by omega, show ((0 : Nat) : Int) = 0 from rfl, Int.add_zero] at h1
    simp only [orpimentref09_addresses.l0, show (i : Int) < (r.length : Int) by omega, if_true]
    rw [h1, addrs_l0 r hf c _ (i + 1) _ (by omega) (by omega) (by rw [List.length_append, seg_length]; omega), hd]
    simp [addrs]
theorem addrs_f {r : List S44} (hf : fine (prs r)) {k : Nat} (hk : 70000 ≤ k) : orpimentref09_addresses.f k r = some (addrs (prs r)) := by
  have hl := hf.1
  rw [prs_length] at hl
  have := addrs_l0 r hf r.length k 0 [] (by omega) (by omega) (by simp)
  simpa [orpimentref09_addresses.f] using this
end Go.Proofs.Ytbojagkalbfenaa
namespace Go.Proofs.Ytbojagkalbfenaa
set_option linter.unusedSimpArgs false
open Go.RowKit PIovGather Go.Proofs.YtbojagkalbfenaaW.PrintWords

theorem rd_cons {l : List Int} {i : Nat} (h : i < l.length) : l.drop i = rd l i :: l.drop (i + 1) := by
  rw [List.drop_eq_getElem_cons h]
  simp [rd, List.getD_eq_getElem?_getD, List.getElem?_eq_getElem h]

theorem rinside_l0 (mem at_ : List Int) (hl : at_.length ≤ 1000000) : ∀ (c k i : Nat), i + c = at_.length → c < k →
    orpimentref09_inside.l0 k mem at_ i = some ((at_.drop i).all fun a => decide (a < mem.length))
  | 0, k + 1, i, hi, _ => by
    simp only [orpimentref09_inside.l0, show ¬ ((i : Int) < (at_.length : Int)) by omega, if_false]
    rw [List.drop_eq_nil_of_le (by omega)]
    rfl
  | c + 1, k + 1, i, hi, hk => by
    have hlt : i < at_.length := by omega
    have ih := rinside_l0 mem at_ hl c k (i + 1) (by omega) (by omega)
    rw [show ((i + 1 : Nat) : Int) = (i : Int) + 1 by omega] at ih
    simp only [orpimentref09_inside.l0, show (i : Int) < (at_.length : Int) by omega, show (0 : Int) ≤ (i : Int) by omega, if_true]
    rw [w64 (x := (i : Int) + 1) (by omega) (by omega), ih, rd_cons hlt, List.all_cons]
    by_cases h : rd at_ i ≥ (mem.length : Int)
    · simp [h, show ¬ (rd at_ i < (mem.length : Int)) by omega]
    · simp [h, show rd at_ i < (mem.length : Int) by omega]
theorem seg_all (n : Nat) : ∀ (c : Nat) (a : Int), 1 ≤ c → ((seg a c).all fun x => decide (x < n)) = decide (a + c ≤ n)
  | 1, a, _ => by simp only [seg, List.all_cons, List.all_nil, Bool.and_true]; exact decide_eq_decide.2 (by omega)
  | c + 2, a, _ => by
    have ih := seg_all n (c + 1) (a + 1) (by omega)
    simp only [seg, List.all_cons] at ih ⊢
    rw [ih, ← Bool.decide_and]
    congr 1
    rw [eq_iff_iff]
    omega
theorem addrs_inside (n : Nat) : ∀ (xs : List (Int × Int)), (∀ x ∈ xs, 1 ≤ x.2) → ((addrs xs).all fun a => decide (a < n)) = insideB n xs
  | [], _ => rfl
  | x :: xs, h => by
    have ih := addrs_inside n xs (fun y hy => h y (List.mem_cons_of_mem _ hy))
    have hx := h x List.mem_cons_self
    simp only [addrs, List.flatMap_cons, List.all_append, insideB, List.all_cons] at ih ⊢
    rw [ih, seg_all n x.2.toNat x.1 (by omega)]
    congr 2
    rw [eq_iff_iff]
    omega
theorem addrs_length : ∀ {xs : List (Int × Int)}, (∀ x ∈ xs, x.2 ≤ 4096) → (addrs xs).length ≤ 4096 * xs.length
  | [], _ => by simp [addrs]
  | x :: xs, h => by
    have ih := addrs_length (xs := xs) (fun y hy => h y (List.mem_cons_of_mem _ hy))
    have hx := h x List.mem_cons_self
    simp only [addrs, List.flatMap_cons, List.length_append, seg_length, List.length_cons] at ih ⊢
    omega
theorem addrs_fine {xs : List (Int × Int)} (h : fine xs) : (addrs xs).length ≤ 65536 := by
  have h1 := addrs_length (fun x hx => (h.2 x hx).2.2)
  have h2 := h.1
  omega
theorem rinside_f {xs : List (Int × Int)} (h : fine xs) (mem : List Int) {k : Nat} (hk : 70000 ≤ k) : orpimentref09_inside.f k mem (addrs xs) = some (insideB mem.length xs) := by
  have h1 := addrs_fine h
  have := rinside_l0 mem (addrs xs) (by omega) (addrs xs).length k 0 (by omega) (by omega)
  rw [show ((0 : Nat) : Int) = 0 from rfl, List.drop_zero, addrs_inside _ _ (fun x hx => (h.2 x hx).2.1)] at this
  exact this

theorem rgather_l0 (mem at_ : List Int) (hl : at_.length ≤ 1000000) (hin : ∀ a ∈ at_, 0 ≤ a ∧ a < mem.length) : ∀ (c k i : Nat) (out : List Int), i + c = at_.length → c < k → out.length ≤ i →
    orpimentref09_Gather.l0 k mem at_ out i = some (out ++ (at_.drop i).map (rd mem), 0)
  | 0, k + 1, i, out, hi, _, _ => by
    simp only [orpimentref09_Gather.l0, show ¬ ((i : Int) < (at_.length : Int)) by omega, if_false]
    rw [List.drop_eq_nil_of_le (by omega)]
    simp
  | c + 1, k + 1, i, out, hi, hk, ho => by
    have hlt : i < at_.length := by omega
    have hd := rd_cons hlt
    have hb := hin (rd at_ i) (List.mem_of_mem_drop (by rw [hd]; exact List.mem_cons_self))
    have ih := rgather_l0 mem at_ hl hin c k (i + 1) (out ++ [rd mem (rd at_ i)]) (by omega) (by omega) (by simp; omega)
    rw [show ((i + 1 : Nat) : Int) = (i : Int) + 1 by omega] at ih
    simp only [orpimentref09_Gather.l0, show (i : Int) < (at_.length : Int) by omega, show (0 : Int) ≤ (i : Int) by omega, hb.1, hb.2, if_true]
    rw [if_pos (by omega), w64 (x := (i : Int) + 1) (by omega) (by omega), ih, hd]
    simp

/-- The bytes of parts, as whole numbers. -/
def gatherI (mem : List Int) (xs : List (Int × Int)) : List Int := xs.flatMap fun x => (mem.drop x.1.toNat).take x.2.toNat
theorem gatherL_map (mem : List Int) (f : Int → Value) (xs : List (Int × Int)) : gatherL (mem.map f) xs = (gatherI mem xs).map f := by
  simp only [gatherL, gatherI, List.map_flatMap, List.map_take, List.map_drop]
  rfl
theorem seg_map (mem : List Int) : ∀ (c : Nat) (a : Int), 0 ≤ a → a + c ≤ mem.length → (seg a c).map (rd mem) = (mem.drop a.toNat).take c
  | 0, a, _, _ => by simp [seg]
  | c + 1, a, h0, h1 => by
    have ih := seg_map mem c (a + 1) (by omega) (by omega)
    have hd := rd_cons (l := mem) (i := a.toNat) (by omega)
    rw [show ((a.toNat : Nat) : Int) = a by omega] at hd
    rw [hd]
    simp only [seg, List.map_cons, List.take_succ_cons, ih]
    rw [show (a + 1).toNat = a.toNat + 1 by omega]
theorem addrs_map (mem : List Int) : ∀ (xs : List (Int × Int)), (∀ x ∈ xs, 0 ≤ x.1 ∧ 0 ≤ x.2) → insideB mem.length xs = true → (addrs xs).map (rd mem) = gatherI mem xs
  | [], _, _ => rfl
  | x :: xs, h, hi => by
    have hx := h x List.mem_cons_self
    simp only [insideB, List.all_cons, Bool.and_eq_true, decide_eq_true_eq] at hi
    have ih := addrs_map mem xs (fun y hy => h y (List.mem_cons_of_mem _ hy)) hi.2
    simp only [addrs, gatherI, List.flatMap_cons, List.map_append] at ih ⊢
    rw [ih, seg_map mem x.2.toNat x.1 hx.1 (by omega)]
theorem seg_mem : ∀ (c : Nat) (a : Int), ∀ y ∈ seg a c, a ≤ y
  | 0, _, y, h => by simp [seg] at h
  | c + 1, a, y, h => by
    rcases List.mem_cons.1 h with rfl | h
    · omega
    · have := seg_mem c (a + 1) y h; omega

/-- The reference's answer. -/
theorem rgather_f (mem : List Int) (l : List S44) (off n : Int) {k : Nat} (hk : 70000 ≤ k) :
    orpimentref09_Gather.f k mem l off n = some (if wth (prs l) off n = 0 then (if insideB mem.length (slicedL (prs l) off n) = true then (gatherI mem (slicedL (prs l) off n), 0) else ([], 11)) else ([], wth (prs l) off n)) := by
  obtain ⟨r, hr, hp⟩ := rslice_f l off n (k := k) (by omega)
  rw [orpimentref09_Gather.f, hr, Option.bind_some]
  by_cases h : wth (prs l) off n = 0
  · rw [if_pos h] at hp
    have hc : chk (prs l) = 0 := by
      unfold wth at h
      split at h
      · assumption
      · assumption
    obtain ⟨h1, h2, h3, h4⟩ := chk_zero hc
    have hoff : 0 ≤ off := by
      unfold wth at h
      rw [if_pos hc] at h
      split at h
      · cases h
      · omega
    have hf := fine_sliced (n := n) h1 h2 hoff
    rw [if_pos h, if_pos h, addrs_f (by rw [hp]; exact hf) hk, Option.bind_some, hp, rinside_f hf mem hk, Option.bind_some]
    by_cases g : insideB mem.length (slicedL (prs l) off n) = true
    · rw [if_pos g, if_pos g]
      have hlen := addrs_fine hf
      have hall : ∀ a ∈ addrs (slicedL (prs l) off n), 0 ≤ a ∧ a < mem.length := by
        intro a ha
        refine ⟨?_, ?_⟩
        · obtain ⟨x, hx, hax⟩ := List.mem_flatMap.1 ha
          have := seg_mem _ _ a hax
          have := (hf.2 x hx).1.1
          omega
        · have := addrs_inside mem.length _ (fun x hx => (hf.2 x hx).2.1)
          rw [g, List.all_eq_true] at this
          simpa using this a ha
      have := rgather_l0 mem _ (by omega) hall (addrs (slicedL (prs l) off n)).length k 0 [] (by omega) (by omega) (by simp)
      rw [show ((0 : Nat) : Int) = 0 from rfl, List.drop_zero, List.nil_append, addrs_map mem _ (fun x hx => ⟨(hf.2 x hx).1.1, by have := (hf.2 x hx).2.1; omega⟩) g] at this
      exact this
    · rw [if_neg g, if_neg g]
  · rw [if_neg h, if_neg h]
end Go.Proofs.Ytbojagkalbfenaa
namespace Go.Proofs.Ytbojagkalbfenaa
set_option linter.unusedSimpArgs false
open Go.RowKit PIovGather Go.Proofs.YtbojagkalbfenaaW.PrintWords

theorem equal_l0 (a b : List Int) (hl : a.length = b.length) (hb : a.length ≤ 1000000) : ∀ (c k i : Nat), i + c = a.length → c < k → slices_Equal_byte_byte.l0 k a b a.length i = some (decide (a.drop i = b.drop i))
  | 0, k + 1, i, hi, _ => by
    simp only [slices_Equal_byte_byte.l0, show ¬ ((i : Int) < (a.length : Int)) by omega, if_false]
    rw [List.drop_eq_nil_of_le (by omega), List.drop_eq_nil_of_le (by omega)]
    simp
  | c + 1, k + 1, i, hi, hk => by
    have ih := equal_l0 a b hl hb c k (i + 1) (by omega) (by omega)
    rw [show ((i + 1 : Nat) : Int) = (i : Int) + 1 by omega] at ih
    simp only [slices_Equal_byte_byte.l0, show (i : Int) < (a.length : Int) by omega, show (i : Int) < (b.length : Int) by omega, show (0 : Int) ≤ (i : Int) by omega, if_true]
    rw [w64 (x := (i : Int) + 1) (by omega) (by omega), ih, rd_cons (l := a) (i := i) (by omega), rd_cons (l := b) (i := i) (by omega)]
    by_cases h : rd a i = rd b i
    · simp [h]
    · simp [h]
theorem equal_f (a b : List Int) (hb : a.length ≤ 1000000) {k : Nat} (hk : 1000002 ≤ k) : slices_Equal_byte_byte.f k a b = some (decide (a = b)) := by
  unfold slices_Equal_byte_byte.f
  by_cases h : a.length = b.length
  · rw [if_pos (by omega)]
    have := equal_l0 a b h hb a.length k 0 (by omega) (by omega)
    simpa using this
  · rw [if_neg (by omega)]
    have : a ≠ b := fun e => h (by rw [e])
    simp [this]
end Go.Proofs.Ytbojagkalbfenaa
namespace Go.Proofs.Ytbojagkalbfenaa
set_option linter.unusedSimpArgs false
open Go.RowKit PIovGather Go.Proofs.YtbojagkalbfenaaW.PrintWords

/-- small's answer, for one memory. -/
def smallB (nl nm : Nat) : Bool := decide (wrap64 ((nl : Int) + wrap64 ((nm : Int) / 100)) ≤ 60)
theorem small_f (l : List S44) (mem : List Int) {k : Nat} (hk : 3 ≤ k) : orpimentlaw09_small.f k l [mem] = some (smallB l.length mem.length) := by
  obtain ⟨m, rfl⟩ : ∃ m, k = m + 1 + 1 := ⟨k - 2, by omega⟩
  have hw1 : wrap64 1 = 1 := by unfold wrap64; omega
  simp [orpimentlaw09_small.f, orpimentlaw09_small.l0, hw1, rd_L1, smallB]
/-- A small input: the list is not valid (too long), or both are short. -/
theorem small_cases {nl nm : Nat} (h : smallB nl nm = true) (h1 : nl ≤ 9223372036854775807) (h2 : nm ≤ 9223372036854775807) : 16 < nl ∨ nm ≤ 6100 := by
  simp only [smallB, decide_eq_true_eq] at h
  unfold wrap64 at h
  omega
end Go.Proofs.Ytbojagkalbfenaa
