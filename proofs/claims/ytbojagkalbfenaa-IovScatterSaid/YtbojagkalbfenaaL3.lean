import Derived.Test.YtbojagkalbfenaaL2
import Derived.Test.YtbojagkalbfenaaPIovGatherx3
namespace Go.Proofs.Ytbojagkalbfenaa
set_option linter.unusedSimpArgs false
open Go.RowKit PIovGather

/-- The reference's slice, in the order of the parts. -/
def sliceR : List (Int × Int) → Int → Int → Int → List (Int × Int)
  | [], _, _, _ => []
  | p :: r, pos, off, n => if max off pos < min (off + n) (pos + p.2) then (p.1 + max off pos - pos, min (off + n) (pos + p.2) - max off pos) :: sliceR r (pos + p.2) off n else sliceR r (pos + p.2) off n
theorem slicedL_none (l : List (Int × Int)) (off : Int) {m : Int} (h : m ≤ 0) : slicedL l off m = [] := by
  cases l with
  | nil => rfl
  | cons p r => simp [slicedL, h]
theorem sliceR_eq : ∀ (l : List (Int × Int)) (pos off n : Int), (∀ p ∈ l, 0 ≤ p.2) → 0 ≤ off → 0 ≤ n → sliceR l pos off n = slicedL l (max (off - pos) 0) (n - max (pos - off) 0)
  | [], _, _, _, _, _, _ => by simp [sliceR, slicedL]
  | p :: r, pos, off, n, h, h0, h1 => by
    have hp := h p List.mem_cons_self
    have ih := sliceR_eq r (pos + p.2) off n (fun q hq => h q (List.mem_cons_of_mem _ hq)) h0 h1
    simp only [sliceR, slicedL, ih]
    by_cases hm : n - max (pos - off) 0 ≤ 0
    · rw [if_pos hm, if_neg (by omega), slicedL_none _ _ (by omega)]
    · rw [if_neg hm]
      by_cases hq : p.2 ≤ max (off - pos) 0
      · rw [if_pos hq, if_neg (by omega)]
        congr 1 <;> omega
      · rw [if_neg hq, if_pos (by omega)]
        congr 1
        · rw [Prod.mk.injEq]; constructor <;> omega
        · by_cases hz : n - max (pos + p.2 - off) 0 ≤ 0
          · rw [slicedL_none _ _ hz, slicedL_none _ _ (by omega)]
          · congr 1 <;> omega
theorem sliceR_slicedL {l : List (Int × Int)} (h : okP l) {off n : Int} (h0 : 0 ≤ off) (h1 : 0 ≤ n) : sliceR l 0 off n = slicedL l off n := by
  rw [sliceR_eq l 0 off n (fun p hp => (h p hp).2.1) h0 h1]
  congr 1 <;> omega

theorem rlen_l0 (l : List S44) (hl : l.length ≤ 16) : ∀ (n k i : Nat) (acc : Int), i + n = l.length → n < k → 0 ≤ acc → acc ≤ 4096 * i →
    orpimentref09_Length.l0 k l acc i = some (if okB ((prs l).drop i) = true then (if 4096 < acc + sumL ((prs l).drop i) then (0, 20) else (acc + sumL ((prs l).drop i), 0)) else (0, 34))
  | 0, k + 1, i, acc, hi, _, h0, h1 => by
    have : ¬ ((i : Int) < (l.length : Int)) := by omega
    simp only [orpimentref09_Length.l0, this, if_false]
    rw [List.drop_eq_nil_of_le (by rw [prs_length]; omega)]
    simp only [okB, List.all_nil, if_true, sumL, Int.add_zero]
    split <;> rfl
  | n + 1, k + 1, i, acc, hi, hk, h0, h1 => by
    have hlt : i < l.length := by omega
    have hd := rd_prs l i hlt
    simp only [orpimentref09_Length.l0, show (i : Int) < (l.length : Int) by omega, show (0 : Int) ≤ (i : Int) by omega, if_true]
    rw [hd]
    by_cases g1 : (rd_T44 l i).f0 < 0
    · simp [okB, okB1, g1, show ¬ (0 ≤ (rd_T44 l i).f0) by omega]
    · by_cases g2 : (rd_T44 l i).f0 > 1099511627776
      · simp [okB, okB1, g1, g2, show ¬ ((rd_T44 l i).f0 ≤ 1099511627776) by omega]
      · by_cases g3 : (rd_T44 l i).f1 < 0
        · simp [okB, okB1, g1, g2, g3, show ¬ (0 ≤ (rd_T44 l i).f1) by omega]
        · by_cases g4 : (rd_T44 l i).f1 > 4096
          · simp [okB, okB1, g1, g2, g3, g4, show ¬ ((rd_T44 l i).f1 ≤ 4096) by omega]
          · have e1 : decide (0 ≤ (rd_T44 l i).f0) = true := decide_eq_true (by omega)
            have e2 : decide ((rd_T44 l i).f0 ≤ 1099511627776) = true := decide_eq_true (by omega)
            have e3 : decide (0 ≤ (rd_T44 l i).f1) = true := decide_eq_true (by omega)
            have e4 : decide ((rd_T44 l i).f1 ≤ 4096) = true := decide_eq_true (by omega)
            have ih := rlen_l0 l hl n k (i + 1) (acc + (rd_T44 l i).f1) (by omega) (by omega) (by omega) (by omega)
            rw [show ((i + 1 : Nat) : Int) = (i : Int) + 1 by omega] at ih
            rw [if_neg g1, if_neg g2, if_neg g3, if_neg g4, w64 (x := (i : Int) + 1) (by omega) (by omega), w64 (x := acc + (rd_T44 l i).f1) (by omega) (by omega), ih]
            simp only [okB, okB1, List.all_cons, e1, e2, e3, e4, Bool.and_self, Bool.true_and, sumL]
            rw [show acc + (rd_T44 l i).f1 + sumL ((prs l).drop (i + 1)) = acc + ((rd_T44 l i).f1 + sumL ((prs l).drop (i + 1))) by omega]
            rfl
theorem rlen_f (l : List S44) {k : Nat} (hk : 60 ≤ k) : orpimentref09_Length.f k l = some (if chk (prs l) = 0 then sumL (prs l) else 0, chk (prs l)) := by
  unfold orpimentref09_Length.f
  by_cases h : l.length ≤ 16
  · have hc : chk (prs l) = if okB (prs l) = true then (if 4096 < sumL (prs l) then 20 else 0) else 34 := by
      unfold chk
      rw [prs_length, if_neg (by omega)]
    have := rlen_l0 l h l.length k 0 0 (by omega) (by omega) (by omega) (by omega)
    rw [show ((0 : Nat) : Int) = 0 from rfl, List.drop_zero, Int.zero_add] at this
    rw [hc, if_neg (by omega), this]
    by_cases g : okB (prs l) = true
    · simp only [g, if_true]
      by_cases g2 : 4096 < sumL (prs l)
      · simp [g2]
      · simp [g2]
    · simp [g]
  · have hc : chk (prs l) = 18 := by
      unfold chk
      rw [prs_length, if_pos (by omega)]
    rw [hc, if_pos (by omega)]
    rfl
end Go.Proofs.Ytbojagkalbfenaa
