import Derived.Test.YtbojagkalbfenaaPIovSlicesx2
import Derived.Test.YtbojagkalbfenaaY2
namespace Go.Proofs.Ytbojagkalbfenaa
set_option linter.unusedSimpArgs false
open Go.RowKit PIovSlices

def prs (l : List S44) : List (Int × Int) := l.map fun x => (x.f0, x.f1)
theorem prs_length (l : List S44) : (prs l).length = l.length := by simp [prs]
def sumL : List (Int × Int) → Int
  | [] => 0
  | p :: r => p.2 + sumL r
theorem sumL_append (a b : List (Int × Int)) : sumL (a ++ b) = sumL a + sumL b := by
  induction a with
  | nil => simp [sumL]
  | cons x r ih => simp only [List.cons_append, sumL, ih]; omega
theorem sumL_bound {l : List (Int × Int)} (h : okP l) : 0 ≤ sumL l ∧ sumL l ≤ 4096 * l.length := by
  induction l with
  | nil => simp [sumL]
  | cons x r ih =>
    have h1 := ih (fun q hq => h q (List.mem_cons_of_mem _ hq))
    have h2 := (h x List.mem_cons_self).2
    simp only [sumL, List.length_cons]
    omega
theorem w64 {x : Int} (h0 : -9223372036854775808 ≤ x) (h1 : x ≤ 9223372036854775807) : wrap64 x = x := by unfold wrap64; omega
theorem rd_prs (l : List S44) (i : Nat) (h : i < l.length) : (prs l).drop i = ((rd_T44 l i).f0, (rd_T44 l i).f1) :: (prs l).drop (i + 1) := by
  rw [drop_cons (by rw [prs_length]; exact h)]
  simp [prs, rd_T44, List.getD_eq_getElem?_getD, List.getElem?_eq_getElem h]

theorem total_l0 (l : List S44) (hok : okP (prs l)) (hl : l.length ≤ 16) : ∀ (n k i : Nat) (acc : Int), i + n = l.length → n < k → 0 ≤ acc → acc ≤ 4096 * i → iov_total.l0 k acc l l.length i = some (acc + sumL ((prs l).drop i))
  | 0, k + 1, i, acc, hi, _, h0, h1 => by
    have : ¬ ((i : Int) < (l.length : Int)) := by omega
    simp only [iov_total.l0, this, if_false]
    rw [List.drop_eq_nil_of_le (by rw [prs_length]; omega)]
    simp [sumL]
  | n + 1, k + 1, i, acc, hi, hk, h0, h1 => by
    have hlt : i < l.length := by omega
    have hd := rd_prs l i hlt
    have hb := hok ((rd_T44 l i).f0, (rd_T44 l i).f1) (List.mem_of_mem_drop (by rw [hd]; exact List.mem_cons_self))
    simp only at hb
    simp only [iov_total.l0, show (i : Int) < (l.length : Int) by omega, show (0 : Int) ≤ (i : Int) by omega, if_true]
    rw [w64 (x := (i : Int) + 1) (by omega) (by omega), w64 (x := acc + (rd_T44 l i).f1) (by omega) (by omega)]
    have := total_l0 l hok hl n k (i + 1) (acc + (rd_T44 l i).f1) (by omega) (by omega) (by omega) (by omega)
    rw [show ((i + 1 : Nat) : Int) = (i : Int) + 1 by omega] at this
    rw [this, hd]
    simp only [sumL]
    congr 1
    omega
theorem total_f {l : List S44} (hok : okP (prs l)) (hl : l.length ≤ 16) {k : Nat} (hk : 20 ≤ k) : iov_total.f k l = some (sumL (prs l)) := by
  have := total_l0 l hok hl l.length k 0 0 (by omega) (by omega) (by omega) (by omega)
  simpa [iov_total.f] using this
end Go.Proofs.Ytbojagkalbfenaa
