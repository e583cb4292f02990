import Derived.Test.YtbojagkalbfenaasL2
import Derived.Test.YtbojagkalbfenaaPIovSlicesx3
namespace Go.Proofs.Ytbojagkalbfenaa
set_option linter.unusedSimpArgs false
open Go.RowKit PIovSlices

/-- The reference's slice, in the order of the parts. -/
def sliceR : List (Int × Int) → Int → Int → Int → List (Int × Int)
  | [], _, _, _ => []
  | p :: r, pos, off, n => if max off pos < min (off + n) (pos + p.2) then (p.1 + max off pos - pos, min (off + n) (pos + p.2) - max off pos) :: sliceR r (pos + p.2) off n else sliceR r (pos + p.2) off n
theorem slicedL_none (l : List (Int × Int)) (off : Int) {m : Int} (h : m ≤ 0) : slicedL l off m = [] := by
  cases l with
  | nil => rfl
  | cons p r => simp [slicedL, h]
theorem sliceR_eq : ∀ (l : List (Int × Int)) (pos off n : Int), (∀ p ∈ l, 0 ≤ p.2) → 0 ≤ off → 0 ≤ n → sliceR l pos off n = slicedL l (max (off - pos) 0) (n - max (pos - off) 0)
  | [], _, _, _, _, _, _ => by simp [sliceR, slicedL]
  | p :: r, pos, off, n, h, h0, h1 => by
    have hp := h p List.mem_cons_self
    have ih := sliceR_eq r (pos + p.2) off n (fun q hq => h q (List.mem_cons_of_mem _ hq)) h0 h1
    simp only [sliceR, slicedL, ih]
    by_cases hm : n - max (pos - off) 0 ≤ 0
    · rw [if_pos hm, if_neg (by omega), slicedL_none _ _ (by omega)]
    · rw [if_neg hm]
      by_cases hq : p.2 ≤ max (off - pos) 0
      · rw [if_pos hq, if_neg (by omega)]
        congr 1 <;> omega
      · rw [if_neg hq, if_pos (by omega)]
        congr 1
        · rw [Prod.mk.injEq]; constructor <;> omega
        · by_cases hz : n - max (pos + p.2 - off) 0 ≤ 0
          · rw [slicedL_none _ _ hz, slicedL_none _ _ (by omega)]
          · congr 1 <;> omega
theorem sliceR_slicedL {l : List (Int × Int)} (h : okP l) {off n : Int} (h0 : 0 ≤ off) (h1 : 0 ≤ n) : sliceR l 0 off n = slicedL l off n := by
  rw [sliceR_eq l 0 off n (fun p hp => (h p hp).2.1) h0 h1]
  congr 1 <;> omega

end Go.Proofs.Ytbojagkalbfenaa
