import Derived.Test.YtbojagkalbfenaaPIovGatherx1
import Derived.Test.YtbojagkalbfenaaqA
import Derived.Test.YtbojagkalbfenaaPIovGatherx3
import Derived.Laws.CopyOwn
import Derived.Lib.SlBytesConst
import Derived.StillTailTactics
import Derived.WalkSpells
import Derived.Deep.RegionHeld3
import Derived.Outline
import Derived.Laws.MakeOwn
import Derived.Deep.QuietTactic
import Derived.BigQuiet
import Derived.Deep.Strs
import Derived.OpenShut
import Derived.WideShapes
import Derived.SizedLaws
import Derived.Deep.Slices
import Derived.WalkKit
import Derived.ProofKit
import Derived.ShutString
import Derived.ChangeOld
import Derived.Below
namespace Go.Proofs.Ytbojagkalbfenaa
set_option linter.unusedSimpArgs false
open Go.RowKit PIovGather

def prs (l : List S44) : List (Int × Int) := l.map fun x => (x.f0, x.f1)
theorem prs_length (l : List S44) : (prs l).length = l.length := by simp [prs]
def sumL : List (Int × Int) → Int
  | [] => 0
  | p :: r => p.2 + sumL r
theorem sumL_append (a b : List (Int × Int)) : sumL (a ++ b) = sumL a + sumL b := by
  induction a with
  | nil => simp [sumL]
  | cons x r ih => simp only [List.cons_append, sumL, ih]; omega
theorem sumL_bound {l : List (Int × Int)} (h : okP l) : 0 ≤ sumL l ∧ sumL l ≤ 4096 * l.length := by
  induction l with
  | nil => simp [sumL]
  | cons x r ih =>
    have h1 := ih (fun q hq => h q (List.mem_cons_of_mem _ hq))
    have h2 := (h x List.mem_cons_self).2
    simp only [sumL, List.length_cons]
    omega
theorem w64 {x : Int} (h0 : -9223372036854775808 ≤ x) (h1 : x ≤ 9223372036854775807) : wrap64 x = x := by unfold wrap64; omega
theorem rd_prs (l : List S44) (i : Nat) (h : i < l.length) : (prs l).drop i = ((rd_T44 l i).f0, (rd_T44 l i).f1) :: (prs l).drop (i + 1) := by
  rw [drop_cons (by rw [prs_length]; exact h)]
  simp [prs, rd_T44, List.getD_eq_getElem?_getD, List.getElem?_eq_getElem h]

theorem total_l0 (l : List S44) (hok : okP (prs l)) (hl : l.length ≤ 16) : ∀ (n k i : Nat) (acc : Int), i + n = l.length → n < k → 0 ≤ acc → acc ≤ 4096 * i → iov_total.l0 k acc l l.length i = some (acc + sumL ((prs l).drop i))
  | 0, k + 1, i, acc, hi, _, h0, h1 => by
    have : ¬ ((i : Int) < (l.length : Int)) := by omega
    simp only [iov_total.l0, this, if_false]
    rw [List.drop_eq_nil_of_le (by rw [prs_length]; omega)]
    simp [sumL]
  | n + 1, k + 1, i, acc, hi, hk, h0, h1 => by
    have hlt : i < l.length := by omega
    have hd := rd_prs l i hlt
    have hb := hok ((rd_T44 l i).f0, (rd_T44 l i).f1) (List.mem_of_mem_drop (by rw [hd]; exact List.mem_cons_self))
    simp only at hb
    simp only [iov_total.l0, show (i : Int) < (l.length : Int) by omega, show (0 : Int) ≤ (i : Int) by omega, if_true]
    rw [w64 (x := (i : Int) + 1) (by omega) (by omega), w64 (x := acc + (rd_T44 l i).f1) (by omega) (by omega)]
    have := total_l0 l hok hl n k (i + 1) (acc + (rd_T44 l i).f1) (by omega) (by omega) (by omega) (by omega)
    rw [show ((i + 1 : Nat) : Int) = (i : Int) + 1 by omega] at this
    rw [this, hd]
    simp only [sumL]
    congr 1
    omega
theorem total_f {l : List S44} (hok : okP (prs l)) (hl : l.length ≤ 16) {k : Nat} (hk : 20 ≤ k) : iov_total.f k l = some (sumL (prs l)) := by
  have := total_l0 l hok hl l.length k 0 0 (by omega) (by omega) (by omega) (by omega)
  simpa [iov_total.f] using this
end Go.Proofs.Ytbojagkalbfenaa
namespace Go.Proofs.Ytbojagkalbfenaa
set_option linter.unusedSimpArgs false
open Go.RowKit PIovGather

def okB1 (p : Int × Int) : Bool := decide (0 ≤ p.1) && decide (p.1 ≤ 1099511627776) && decide (0 ≤ p.2) && decide (p.2 ≤ 4096)
def okB (l : List (Int × Int)) : Bool := l.all okB1
theorem okB_iff {l : List (Int × Int)} : okB l = true ↔ okP l := by
  simp only [okB, okB1, okP, List.all_eq_true, Bool.and_eq_true, decide_eq_true_eq]
  constructor
  · intro h p hp; have := h p hp; omega
  · intro h p hp; have := h p hp; omega
/-- The code of a list: Check's answer. -/
def chk (l : List (Int × Int)) : Int := if 16 < l.length then 18 else if okB l = true then (if 4096 < sumL l then 20 else 0) else 34

theorem check_l2 (l : List S44) (hl : l.length ≤ 16) (x0 x21 : List (List S44)) (x22 x23 : Int) : ∀ (n m i : Nat), i + n = l.length →
    iov_check.l2 (m + 1 + n) x0 x21 x22 x23 l l.length i = if okB ((prs l).drop i) = true then iov_check.l1 m x0 x21 x22 (wrap64 (x23 + 1)) else some 34
  | 0, m, i, hi => by
    have : ¬ ((i : Int) < (l.length : Int)) := by omega
    simp only [Nat.add_zero, iov_check.l2, this, if_false]
    rw [List.drop_eq_nil_of_le (by rw [prs_length]; omega)]
    simp [okB]
  | n + 1, m, i, hi => by
    have hlt : i < l.length := by omega
    have hd := rd_prs l i hlt
    have ih := check_l2 l hl x0 x21 x22 x23 n m (i + 1) (by omega)
    rw [show ((i + 1 : Nat) : Int) = (i : Int) + 1 by omega] at ih
    rw [show m + 1 + (n + 1) = (m + 1 + n) + 1 by omega]
    simp only [iov_check.l2, show (i : Int) < (l.length : Int) by omega, show (0 : Int) ≤ (i : Int) by omega, if_true]
    rw [w64 (x := (i : Int) + 1) (by omega) (by omega), ih, hd]
    simp only [okB, List.all_cons, okB1]
    by_cases h1 : (rd_T44 l i).f0 < 0
    · simp [h1, show ¬ (0 ≤ (rd_T44 l i).f0) by omega]
    · by_cases h2 : (rd_T44 l i).f0 > 1099511627776
      · simp [h1, h2, show ¬ ((rd_T44 l i).f0 ≤ 1099511627776) by omega]
      · by_cases h3 : (rd_T44 l i).f1 < 0
        · simp [h1, h2, h3, show ¬ (0 ≤ (rd_T44 l i).f1) by omega]
        · by_cases h4 : (rd_T44 l i).f1 > 4096
          · simp [h1, h2, h3, h4, show ¬ ((rd_T44 l i).f1 ≤ 4096) by omega]
          · have e1 : decide (0 ≤ (rd_T44 l i).f0) = true := decide_eq_true (by omega)
            have e2 : decide ((rd_T44 l i).f0 ≤ 1099511627776) = true := decide_eq_true (by omega)
            have e3 : decide (0 ≤ (rd_T44 l i).f1) = true := decide_eq_true (by omega)
            have e4 : decide ((rd_T44 l i).f1 ≤ 4096) = true := decide_eq_true (by omega)
            rw [if_neg h1, if_neg h2, if_neg h3, if_neg h4]
            simp only [e1, e2, e3, e4, Bool.and_self, Bool.true_and]
            rfl

theorem check_f (l : List S44) {k : Nat} (hk : 60 ≤ k) : iov_check.f k [l] = some (chk (prs l)) := by
  have hrd : rd_L4 [l] 0 = l := rfl
  have hw : wrap64 (0 + 1) = 1 := by unfold wrap64; omega
  have hw1 : wrap64 1 = 1 := by unfold wrap64; omega
  by_cases h : l.length ≤ 16
  · obtain ⟨e, rfl⟩ : ∃ e, k = (e + 1 + 1 + 1 + 1 + l.length) + 1 + 1 + 1 := ⟨k - 7 - l.length, by omega⟩
    have hn : ¬ ((l.length : Int) > 16) := by omega
    have hl2 := check_l2 l h [l] [l] 1 0 l.length (e + 1 + 1 + 1) 0 (by omega)
    have s1 : iov_check.f ((e + 1 + 1 + 1 + 1 + l.length) + 1 + 1 + 1) [l] = iov_check.l2 (e + 1 + 1 + 1 + 1 + l.length) [l] [l] 1 0 l l.length 0 := by
      simp [iov_check.f, iov_check.l0, iov_check.l1, hrd, hn, hw1]
    rw [s1]
    rw [show ((0 : Nat) : Int) = 0 from rfl] at hl2
    rw [hl2, List.drop_zero, chk, prs_length, if_neg (show ¬ 16 < l.length by omega)]
    by_cases hok : okB (prs l) = true
    · have ht := total_f (l := l) (k := e + 1) (okB_iff.1 hok) h (by omega)
      rw [if_pos hok, if_pos hok, hw]
      by_cases hs : sumL (prs l) > 4096
      · simp [iov_check.l1, iov_check.l3, hrd, ht, hs]
      · simp [iov_check.l1, iov_check.l3, hrd, ht, hs, hw1]
    · rw [if_neg hok, if_neg hok]
  · obtain ⟨m, rfl⟩ : ∃ m, k = m + 1 := ⟨k - 1, by omega⟩
    have hn : (l.length : Int) > 16 := by omega
    simp only [iov_check.f, iov_check.l0, List.length_cons, List.length_nil, hrd, chk, prs_length, if_pos hn, show 16 < l.length by omega, if_true]
    simp

/-- within's answer. -/
def wth (l : List (Int × Int)) (off n : Int) : Int := if chk l = 0 then (if off < 0 ∨ n < 0 ∨ sumL l < off ∨ sumL l - off < n then 34 else 0) else chk l
theorem chk_zero {l : List (Int × Int)} (h : chk l = 0) : okP l ∧ l.length ≤ 16 ∧ 0 ≤ sumL l ∧ sumL l ≤ 4096 := by
  unfold chk at h
  split at h
  · cases h
  · split at h
    · rename_i h1 h2
      have h3 := okB_iff.1 h2
      have := sumL_bound h3
      split at h
      · cases h
      · exact ⟨h3, by omega, by omega, by omega⟩
    · cases h
theorem within_f (l : List S44) (off n : Int) {k : Nat} (hk : 60 ≤ k) : iov_within.f k l off n = some (wth (prs l) off n) := by
  rw [iov_within.f, check_f l hk, Option.bind_some, wth]
  by_cases h : chk (prs l) = 0
  · obtain ⟨h1, h2, h3, h4⟩ := chk_zero h
    rw [if_pos h, if_pos h, total_f h1 (by rw [← prs_length]; exact h2) (by omega), Option.bind_some]
    by_cases a : off < 0
    · simp [a]
    · by_cases b : n < 0
      · simp [a, b]
      · by_cases c : off > sumL (prs l)
        · simp [a, b, c]
        · rw [w64 (x := sumL (prs l) - off) (by omega) (by omega)]
          by_cases d : n > sumL (prs l) - off
          · simp [a, b, c, d]
          · rw [if_neg a, if_neg b, if_neg c, if_neg d, if_neg (by omega)]
  · rw [if_neg h, if_neg h]
end Go.Proofs.Ytbojagkalbfenaa
namespace Go.Proofs.Ytbojagkalbfenaa
set_option linter.unusedSimpArgs false
open Go.RowKit PIovGather

/-- The reference's slice, in the order of the parts. -/
def sliceR : List (Int × Int) → Int → Int → Int → List (Int × Int)
  | [], _, _, _ => []
  | p :: r, pos, off, n => if max off pos < min (off + n) (pos + p.2) then (p.1 + max off pos - pos, min (off + n) (pos + p.2) - max off pos) :: sliceR r (pos + p.2) off n else sliceR r (pos + p.2) off n
theorem slicedL_none (l : List (Int × Int)) (off : Int) {m : Int} (h : m ≤ 0) : slicedL l off m = [] := by
  cases l with
  | nil => rfl
  | cons p r => simp [slicedL, h]
theorem sliceR_eq : ∀ (l : List (Int × Int)) (pos off n : Int), (∀ p ∈ l, 0 ≤ p.2) → 0 ≤ off → 0 ≤ n → sliceR l pos off n = slicedL l (max (off - pos) 0) (n - max (pos - off) 0)
  | [], _, _, _, _, _, _ => by simp [sliceR, slicedL]
  | p :: r, pos, off, n, h, h0, h1 => by
    have hp := h p List.mem_cons_self
    have ih := sliceR_eq r (pos + p.2) off n (fun q hq => h q (List.mem_cons_of_mem _ hq)) h0 h1
    simp only [sliceR, slicedL, ih]
    by_cases hm : n - max (pos - off) 0 ≤ 0
    · rw [if_pos hm, if_neg (by omega), slicedL_none _ _ (by omega)]
    · rw [if_neg hm]
      by_cases hq : p.2 ≤ max (off - pos) 0
      · rw [if_pos hq, if_neg (by omega)]
        congr 1 <;> omega
      · rw [if_neg hq, if_pos (by omega)]
        congr 1
        · rw [Prod.mk.injEq]; constructor <;> omega
        · by_cases hz : n - max (pos + p.2 - off) 0 ≤ 0
          · rw [slicedL_none _ _ hz, slicedL_none _ _ (by omega)]
          · congr 1 <;> omega
theorem sliceR_slicedL {l : List (Int × Int)} (h : okP l) {off n : Int} (h0 : 0 ≤ off) (h1 : 0 ≤ n) : sliceR l 0 off n = slicedL l off n := by
  rw [sliceR_eq l 0 off n (fun p hp => (h p hp).2.1) h0 h1]
  congr 1 <;> omega

theorem rlen_l0 (l : List S44) (hl : l.length ≤ 16) : ∀ (n k i : Nat) (acc : Int), i + n = l.length → n < k → 0 ≤ acc → acc ≤ 4096 * i →
    orpimentref09_Length.l0 k l acc i = some (if okB ((prs l).drop i) = true then (if 4096 < acc + sumL ((prs l).drop i) then (0, 20) else (acc + sumL ((prs l).drop i), 0)) else (0, 34))
  | 0, k + 1, i, acc, hi, _, h0, h1 => by
    have : ¬ ((i : Int) < (l.length : Int)) := by omega
    simp only [orpimentref09_Length.l0, this, if_false]
    rw [List.drop_eq_nil_of_le (by rw [prs_length]; omega)]
    simp only [okB, List.all_nil, if_true, sumL, Int.add_zero]
    split <;> rfl
  | n + 1, k + 1, i, acc, hi, hk, h0, h1 => by
    have hlt : i < l.length := by omega
    have hd := rd_prs l i hlt
    simp only [orpimentref09_Length.l0, show (i : Int) < (l.length : Int) by omega, show (0 : Int) ≤ (i : Int) by omega, if_true]
    rw [hd]
    by_cases g1 : (rd_T44 l i).f0 < 0
    · simp [okB, okB1, g1, show ¬ (0 ≤ (rd_T44 l i).f0) by omega]
    · by_cases g2 : (rd_T44 l i).f0 > 1099511627776
      · simp [okB, okB1, g1, g2, show ¬ ((rd_T44 l i).f0 ≤ 1099511627776) by omega]
      · by_cases g3 : (rd_T44 l i).f1 < 0
        · simp [okB, okB1, g1, g2, g3, show ¬ (0 ≤ (rd_T44 l i).f1) by omega]
        · by_cases g4 : (rd_T44 l i).f1 > 4096
          · simp [okB, okB1, g1, g2, g3, g4, show ¬ ((rd_T44 l i).f1 ≤ 4096) by omega]
          · have e1 : decide (0 ≤ (rd_T44 l i).f0) = true := decide_eq_true (by omega)
            have e2 : decide ((rd_T44 l i).f0 ≤ 1099511627776) = true := decide_eq_true (by omega)
            have e3 : decide (0 ≤ (rd_T44 l i).f1) = true := decide_eq_true (by omega)
            have e4 : decide ((rd_T44 l i).f1 ≤ 4096) = true := decide_eq_true (by omega)
            have ih := rlen_l0 l hl n k (i + 1) (acc + (rd_T44 l i).f1) (by omega) (by omega) (by omega) (by omega)
            rw [show ((i + 1 : Nat) : Int) = (i : Int) + 1 by omega] at ih
            rw [if_neg g1, if_neg g2, if_neg g3, if_neg g4, w64 (x := (i : Int) + 1) (by omega) (by omega), w64 (x := acc + (rd_T44 l i).f1) (by omega) (by omega), ih]
            simp only [okB, okB1, List.all_cons, e1, e2, e3, e4, Bool.and_self, Bool.true_and, sumL]
            rw [show acc + (rd_T44 l i).f1 + sumL ((prs l).drop (i + 1)) = acc + ((rd_T44 l i).f1 + sumL ((prs l).drop (i + 1))) by omega]
            rfl
theorem rlen_f (l : List S44) {k : Nat} (hk : 60 ≤ k) : orpimentref09_Length.f k l = some (if chk (prs l) = 0 then sumL (prs l) else 0, chk (prs l)) := by
  unfold orpimentref09_Length.f
  by_cases h : l.length ≤ 16
  · have hc : chk (prs l) = if okB (prs l) = true then (if 4096 < sumL (prs l) then 20 else 0) else 34 := by
      unfold chk
      rw [prs_length, if_neg (by omega)]
    have := rlen_l0 l h l.length k 0 0 (by omega) (by omega) (by omega) (by omega)
    rw [show ((0 : Nat) : Int) = 0 from rfl, List.drop_zero, Int.zero_add] at this
    rw [hc, if_neg (by omega), this]
    by_cases g : okB (prs l) = true
    · simp only [g, if_true]
      by_cases g2 : 4096 < sumL (prs l)
      · simp [g2]
      · simp [g2]
    · simp [g]
  · have hc : chk (prs l) = 18 := by
      unfold chk
      rw [prs_length, if_pos (by omega)]
    rw [hc, if_pos (by omega)]
    rfl
end Go.Proofs.Ytbojagkalbfenaa
namespace Go.Proofs.Ytbojagkalbfenaa
set_option linter.unusedSimpArgs false
open Go.RowKit PIovGather Go.Proofs.YtbojagkalbfenaaW.PrintWords

theorem rslice_l0 (l : List S44) (hok : okP (prs l)) (hl : l.length ≤ 16) (off n : Int) (ho : 0 ≤ off ∧ off ≤ 65536) (hn : 0 ≤ n ∧ n ≤ 65536) : ∀ (c k i : Nat) (pos : Int) (out : List S44), i + c = l.length → c < k → 0 ≤ pos → pos ≤ 4096 * i → out.length ≤ i →
    ∃ r, orpimentref09_Slice.l0 k l off n out pos i = some (r, 0) ∧ prs r = prs out ++ sliceR ((prs l).drop i) pos off n
  | 0, k + 1, i, pos, out, hi, _, h0, h1, _ => by
    have : ¬ ((i : Int) < (l.length : Int)) := by omega
    simp only [orpimentref09_Slice.l0, this, if_false]
    rw [List.drop_eq_nil_of_le (by rw [prs_length]; omega)]
    exact ⟨_, rfl, by simp [sliceR]⟩
  | c + 1, k + 1, i, pos, out, hi, hk, h0, h1, h2 => by
    have hlt : i < l.length := by omega
    have hd := rd_prs l i hlt
    have hb := hok ((rd_T44 l i).f0, (rd_T44 l i).f1) (List.mem_of_mem_drop (by rw [hd]; exact List.mem_cons_self))
    simp only at hb
    have e1 : mx off pos = max off pos := by unfold mx; omega
    have e2 : mn (wrap64 (off + n)) (wrap64 (pos + (rd_T44 l i).f1)) = min (off + n) (pos + (rd_T44 l i).f1) := by
      rw [w64 (x := off + n) (by omega) (by omega), w64 (x := pos + (rd_T44 l i).f1) (by omega) (by omega)]; unfold mn; omega
    simp only [orpimentref09_Slice.l0, show (i : Int) < (l.length : Int) by omega, show (0 : Int) ≤ (i : Int) by omega, if_true, e1, e2]
    rw [w64 (x := (i : Int) + 1) (by omega) (by omega), w64 (x := pos + (rd_T44 l i).f1) (by omega) (by omega), hd]
    simp only [sliceR]
    by_cases g : max off pos < min (off + n) (pos + (rd_T44 l i).f1)
    · rw [if_pos g, if_pos g, if_pos (by omega)]
      rw [w64 (x := (rd_T44 l i).f0 + max off pos) (by omega) (by omega), w64 (x := (rd_T44 l i).f0 + max off pos - pos) (by omega) (by omega), w64 (x := min (off + n) (pos + (rd_T44 l i).f1) - max off pos) (by omega) (by omega)]
      obtain ⟨r, hr, hp⟩ := rslice_l0 l hok hl off n ho hn c k (i + 1) (pos + (rd_T44 l i).f1) (out ++ [⟨(rd_T44 l i).f0 + max off pos - pos, min (off + n) (pos + (rd_T44 l i).f1) - max off pos⟩]) (by omega) (by omega) (by omega) (by omega) (by simp; omega)
      exact ⟨r, hr, by rw [hp]; simp [prs]⟩
    · rw [if_neg g, if_neg g]
      exact rslice_l0 l hok hl off n ho hn c k (i + 1) (pos + (rd_T44 l i).f1) out (by omega) (by omega) (by omega) (by omega) (by omega)

theorem rslice_f (l : List S44) (off n : Int) {k : Nat} (hk : 60 ≤ k) :
    ∃ r, orpimentref09_Slice.f k l off n = some (r, wth (prs l) off n) ∧ prs r = if wth (prs l) off n = 0 then slicedL (prs l) off n else [] := by
  rw [orpimentref09_Slice.f, rlen_f l hk, Option.bind_some, wth]
  by_cases h : chk (prs l) = 0
  · obtain ⟨h1, h2, h3, h4⟩ := chk_zero h
    obtain ⟨m, rfl⟩ : ∃ m, k = m + 1 := ⟨k - 1, by omega⟩
    simp only [h, if_true, orpimentref09_Slice.j0]
    by_cases a : off < 0
    · exact ⟨[], by rw [if_pos (show off < 0 ∨ n < 0 ∨ sumL (prs l) < off ∨ sumL (prs l) - off < n by omega)]; simp [a], by rw [if_pos (show off < 0 ∨ n < 0 ∨ sumL (prs l) < off ∨ sumL (prs l) - off < n by omega)]; simp [prs]⟩
    · by_cases b : n < 0
      · exact ⟨[], by rw [if_pos (show off < 0 ∨ n < 0 ∨ sumL (prs l) < off ∨ sumL (prs l) - off < n by omega)]; simp [a, b], by rw [if_pos (show off < 0 ∨ n < 0 ∨ sumL (prs l) < off ∨ sumL (prs l) - off < n by omega)]; simp [prs]⟩
      · by_cases c : off > sumL (prs l)
        · exact ⟨[], by rw [if_pos (show off < 0 ∨ n < 0 ∨ sumL (prs l) < off ∨ sumL (prs l) - off < n by omega)]; simp [a, b, c], by rw [if_pos (show off < 0 ∨ n < 0 ∨ sumL (prs l) < off ∨ sumL (prs l) - off < n by omega)]; simp [prs]⟩
        · rw [w64 (x := sumL (prs l) - off) (by omega) (by omega)]
          by_cases d : n > sumL (prs l) - off
          · exact ⟨[], by rw [if_pos (show off < 0 ∨ n < 0 ∨ sumL (prs l) < off ∨ sumL (prs l) - off < n by omega)]; simp [a, b, c, d], by rw [if_pos (show off < 0 ∨ n < 0 ∨ sumL (prs l) < off ∨ sumL (prs l) - off < n by omega)]; simp [prs]⟩
          · obtain ⟨r, hr, hp⟩ := rslice_l0 l h1 (by rw [← prs_length]; exact h2) off n (by omega) (by omega) l.length m 0 0 [] (by omega) (by rw [prs_length] at h2; omega) (by omega) (by omega) (by simp)
            refine ⟨r, ?_, ?_⟩
            · rw [show ((0 : Nat) : Int) = 0 from rfl] at hr
              rw [if_neg a, if_neg b, if_neg c, if_neg (show ¬ (off < 0 ∨ n < 0 ∨ sumL (prs l) < off ∨ sumL (prs l) - off < n) by omega)]
              simp [d, hr]
            · rw [if_neg (show ¬ (off < 0 ∨ n < 0 ∨ sumL (prs l) < off ∨ sumL (prs l) - off < n) by omega), if_pos rfl, hp, List.drop_zero, sliceR_slicedL h1 (by omega) (by omega)]
              simp [prs]
  · simp only [h, if_false]
    exact ⟨[], rfl, by simp [prs]⟩
end Go.Proofs.Ytbojagkalbfenaa
namespace Go.Proofs.Ytbojagkalbfenaa
set_option linter.unusedSimpArgs false
open Go.RowKit PIovGather Go.Proofs.YtbojagkalbfenaaW.PrintWords

def seg (a : Int) : Nat → List Int
  | 0 => []
  | c + 1 => a :: seg (a + 1) c
theorem seg_length (a : Int) (c : Nat) : (seg a c).length = c := by
  induction c generalizing a with
  | zero => rfl
  | succ c ih => simp [seg, ih]
def addrs (l : List (Int × Int)) : List Int := l.flatMap fun x => seg x.1 x.2.toNat
/-- What a reference's list of parts may be. -/
def fine (l : List (Int × Int)) : Prop := l.length ≤ 16 ∧ ∀ x ∈ l, (0 ≤ x.1 ∧ x.1 ≤ 1099511631872) ∧ 1 ≤ x.2 ∧ x.2 ≤ 4096
theorem fine_sliced {l : List (Int × Int)} (h : okP l) (hl : l.length ≤ 16) {off n : Int} (h0 : 0 ≤ off) : fine (slicedL l off n) :=
  ⟨Nat.le_trans (slicedL_length l off n) hl, slicedL_mem h h0⟩

theorem addrs_l1 (r : List S44) (hf : fine (prs r)) (i : Nat) (hi : i < r.length) : ∀ (c m j : Nat) (out : List Int), j + c = (rd_T44 r i).f1.toNat → out.length + c ≤ 1000000 →
    orpimentref09_addresses.l1 (m + 1 + c) r out i j = orpimentref09_addresses.l0 m r (out ++ seg ((rd_T44 r i).f0 + j) c) ((i + 1 : Nat) : Int)
  | 0, m, j, out, hj, ho => by
    have hd := rd_prs r i hi
    have hl := hf.1
    rw [prs_length] at hl
    have hb := hf.2 ((rd_T44 r i).f0, (rd_T44 r i).f1) (List.mem_of_mem_drop (by rw [hd]; exact List.mem_cons_self))
    simp only at hb
    simp only [Nat.add_zero, orpimentref09_addresses.l1, show (0 : Int) ≤ (i : Int) by omega, show (i : Int) < (r.length : Int) by omega, show ¬ ((j : Int) < (rd_T44 r i).f1) by omega, if_true, if_false, seg, List.append_nil]
    rw [w64 (x := (i : Int) + 1) (by omega) (by omega)]
    rfl
  | c + 1, m, j, out, hj, ho => by
    have hd := rd_prs r i hi
    have hl := hf.1
    rw [prs_length] at hl
    have hb := hf.2 ((rd_T44 r i).f0, (rd_T44 r i).f1) (List.mem_of_mem_drop (by rw [hd]; exact List.mem_cons_self))
    simp only at hb
    have ih := addrs_l1 r hf i hi c m (j + 1) (out ++ [(rd_T44 r i).f0 + j]) (by omega) (by simp; omega)
    rw [show m + 1 + (c + 1) = (m + 1 + c) + 1 by omega]
    simp only [orpimentref09_addresses.l1, show (0 : Int) ≤ (i : Int) by omega, show (i : Int) < (r.length : Int) by omega, show (j : Int) < (rd_T44 r i).f1 by omega, if_true]
    rw [if_pos (by omega), w64 (x := (j : Int) + 1) (by omega) (by omega), w64 (x := (rd_T44 r i).f0 + (j : Int)) (by omega) (by omega)]
    rw [show ((j + 1 : Nat) : Int) = (j : Int) + 1 by omega] at ih
    rw [ih]
    simp only [seg, List.append_assoc, List.singleton_append]
    rw [show (rd_T44 r i).f0 + ((j : Int) + 1) = (rd_T44 r i).f0 + (j : Int) + 1 by omega]

theorem addrs_l0 (r : List S44) (hf : fine (prs r)) : ∀ (c k i : Nat) (out : List Int), i + c = r.length → 4098 * c < k → out.length ≤ 4096 * i →
    orpimentref09_addresses.l0 k r out i = some (out ++ addrs ((prs r).drop i))
  | 0, k + 1, i, out, hi, _, _ => by
    simp only [orpimentref09_addresses.l0, show ¬ ((i : Int) < (r.length : Int)) by omega, if_false]
    rw [List.drop_eq_nil_of_le (by rw [prs_length]; omega)]
    simp [addrs]
  | c + 1, k + 1, i, out, hi, hk, ho => by
    have hlt : i < r.length := by omega
    have hd := rd_prs r i hlt
    have hl := hf.1
    rw [prs_length] at hl
    have hb := hf.2 ((rd_T44 r i).f0, (rd_T44 r i).f1) (List.mem_of_mem_drop (by rw [hd]; exact List.mem_cons_self))
    simp only at hb
    have h1 := addrs_l1 r hf i hlt (rd_T44 r i).f1.toNat (k - 1 - (rd_T44 r i).f1.toNat) 0 out (by omega) (by omega)
    rw [show k - 1 - (rd_T44 r i).f1.toNat + 1 + (rd_T44 r i).f1.toNat = k by omega, show ((0 : Nat) : Int) = 0 from rfl, Int.add_zero] at h1
    simp only [orpimentref09_addresses.l0, show (i : Int) < (r.length : Int) by omega, if_true]
    rw [h1, addrs_l0 r hf c _ (i + 1) _ (by omega) (by omega) (by rw [List.length_append, seg_length]; omega), hd]
    simp [addrs]
theorem addrs_f {r : List S44} (hf : fine (prs r)) {k : Nat} (hk : 70000 ≤ k) : orpimentref09_addresses.f k r = some (addrs (prs r)) := by
  have hl := hf.1
  rw [prs_length] at hl
  have := addrs_l0 r hf r.length k 0 [] (by omega) (by omega) (by simp)
  simpa [orpimentref09_addresses.f] using this
end Go.Proofs.Ytbojagkalbfenaa
namespace Go.Proofs.Ytbojagkalbfenaa
set_option linter.unusedSimpArgs false
open Go.RowKit PIovGather Go.Proofs.YtbojagkalbfenaaW.PrintWords

theorem rd_cons {l : List Int} {i : Nat} (h : i < l.length) : l.drop i = rd l i :: l.drop (i + 1) := by
  rw [List.drop_eq_getElem_cons h]
  simp [rd, List.getD_eq_getElem?_getD, List.getElem?_eq_getElem h]

theorem rinside_l0 (mem at_ : List Int) (hl : at_.length ≤ 1000000) : ∀ (c k i : Nat), i + c = at_.length → c < k →
    orpimentref09_inside.l0 k mem at_ i = some ((at_.drop i).all fun a => decide (a < mem.length))
  | 0, k + 1, i, hi, _ => by
    simp only [orpimentref09_inside.l0, show ¬ ((i : Int) < (at_.length : Int)) by omega, if_false]
    rw [List.drop_eq_nil_of_le (by omega)]
    rfl
  | c + 1, k + 1, i, hi, hk => by
    have hlt : i < at_.length := by omega
    have ih := rinside_l0 mem at_ hl c k (i + 1) (by omega) (by omega)
    rw [show ((i + 1 : Nat) : Int) = (i : Int) + 1 by omega] at ih
    simp only [orpimentref09_inside.l0, show (i : Int) < (at_.length : Int) by omega, show (0 : Int) ≤ (i : Int) by omega, if_true]
    rw [w64 (x := (i : Int) + 1) (by omega) (by omega), ih, rd_cons hlt, List.all_cons]
    by_cases h : rd at_ i ≥ (mem.length : Int)
    · simp [h, show ¬ (rd at_ i < (mem.length : Int)) by omega]
    · simp [h, show rd at_ i < (mem.length : Int) by omega]
theorem seg_all (n : Nat) : ∀ (c : Nat) (a : Int), 1 ≤ c → ((seg a c).all fun x => decide (x < n)) = decide (a + c ≤ n)
  | 1, a, _ => by simp only [seg, List.all_cons, List.all_nil, Bool.and_true]; exact decide_eq_decide.2 (by omega)
  | c + 2, a, _ => by
    have ih := seg_all n (c + 1) (a + 1) (by omega)
    simp only [seg, List.all_cons] at ih ⊢
    rw [ih, ← Bool.decide_and]
    congr 1
    rw [eq_iff_iff]
    omega
theorem addrs_inside (n : Nat) : ∀ (xs : List (Int × Int)), (∀ x ∈ xs, 1 ≤ x.2) → ((addrs xs).all fun a => decide (a < n)) = insideB n xs
  | [], _ => rfl
  | x :: xs, h => by
    have ih := addrs_inside n xs (fun y hy => h y (List.mem_cons_of_mem _ hy))
    have hx := h x List.mem_cons_self
    simp only [addrs, List.flatMap_cons, List.all_append, insideB, List.all_cons] at ih ⊢
    rw [ih, seg_all n x.2.toNat x.1 (by omega)]
    congr 2
    rw [eq_iff_iff]
    omega
theorem addrs_length : ∀ {xs : List (Int × Int)}, (∀ x ∈ xs, x.2 ≤ 4096) → (addrs xs).length ≤ 4096 * xs.length
  | [], _ => by simp [addrs]
  | x :: xs, h => by
    have ih := addrs_length (xs := xs) (fun y hy => h y (List.mem_cons_of_mem _ hy))
    have hx := h x List.mem_cons_self
    simp only [addrs, List.flatMap_cons, List.length_append, seg_length, List.length_cons] at ih ⊢
    omega
theorem addrs_fine {xs : List (Int × Int)} (h : fine xs) : (addrs xs).length ≤ 65536 := by
  have h1 := addrs_length (fun x hx => (h.2 x hx).2.2)
  have h2 := h.1
  omega
theorem rinside_f {xs : List (Int × Int)} (h : fine xs) (mem : List Int) {k : Nat} (hk : 70000 ≤ k) : orpimentref09_inside.f k mem (addrs xs) = some (insideB mem.length xs) := by
  have h1 := addrs_fine h
  have := rinside_l0 mem (addrs xs) (by omega) (addrs xs).length k 0 (by omega) (by omega)
  rw [show ((0 : Nat) : Int) = 0 from rfl, List.drop_zero, addrs_inside _ _ (fun x hx => (h.2 x hx).2.1)] at this
  exact this

theorem rgather_l0 (mem at_ : List Int) (hl : at_.length ≤ 1000000) (hin : ∀ a ∈ at_, 0 ≤ a ∧ a < mem.length) : ∀ (c k i : Nat) (out : List Int), i + c = at_.length → c < k → out.length ≤ i →
    orpimentref09_Gather.l0 k mem at_ out i = some (out ++ (at_.drop i).map (rd mem), 0)
  | 0, k + 1, i, out, hi, _, _ => by
    simp only [orpimentref09_Gather.l0, show ¬ ((i : Int) < (at_.length : Int)) by omega, if_false]
    rw [List.drop_eq_nil_of_le (by omega)]
    simp
  | c + 1, k + 1, i, out, hi, hk, ho => by
    have hlt : i < at_.length := by omega
    have hd := rd_cons hlt
    have hb := hin (rd at_ i) (List.mem_of_mem_drop (by rw [hd]; exact List.mem_cons_self))
    have ih := rgather_l0 mem at_ hl hin c k (i + 1) (out ++ [rd mem (rd at_ i)]) (by omega) (by omega) (by simp; omega)
    rw [show ((i + 1 : Nat) : Int) = (i : Int) + 1 by omega] at ih
    simp only [orpimentref09_Gather.l0, show (i : Int) < (at_.length : Int) by omega, show (0 : Int) ≤ (i : Int) by omega, hb.1, hb.2, if_true]
    rw [if_pos (by omega), w64 (x := (i : Int) + 1) (by omega) (by omega), ih, hd]
    simp

/-- The bytes of parts, as whole numbers. -/
def gatherI (mem : List Int) (xs : List (Int × Int)) : List Int := xs.flatMap fun x => (mem.drop x.1.toNat).take x.2.toNat
theorem gatherL_map (mem : List Int) (f : Int → Value) (xs : List (Int × Int)) : gatherL (mem.map f) xs = (gatherI mem xs).map f := by
  simp only [gatherL, gatherI, List.map_flatMap, List.map_take, List.map_drop]
  rfl
theorem seg_map (mem : List Int) : ∀ (c : Nat) (a : Int), 0 ≤ a → a + c ≤ mem.length → (seg a c).map (rd mem) = (mem.drop a.toNat).take c
  | 0, a, _, _ => by simp [seg]
  | c + 1, a, h0, h1 => by
    have ih := seg_map mem c (a + 1) (by omega) (by omega)
    have hd := rd_cons (l := mem) (i := a.toNat) (by omega)
    rw [show ((a.toNat : Nat) : Int) = a by omega] at hd
    rw [hd]
    simp only [seg, List.map_cons, List.take_succ_cons, ih]
    rw [show (a + 1).toNat = a.toNat + 1 by omega]
theorem addrs_map (mem : List Int) : ∀ (xs : List (Int × Int)), (∀ x ∈ xs, 0 ≤ x.1 ∧ 0 ≤ x.2) → insideB mem.length xs = true → (addrs xs).map (rd mem) = gatherI mem xs
  | [], _, _ => rfl
  | x :: xs, h, hi => by
    have hx := h x List.mem_cons_self
    simp only [insideB, List.all_cons, Bool.and_eq_true, decide_eq_true_eq] at hi
    have ih := addrs_map mem xs (fun y hy => h y (List.mem_cons_of_mem _ hy)) hi.2
    simp only [addrs, gatherI, List.flatMap_cons, List.map_append] at ih ⊢
    rw [ih, seg_map mem x.2.toNat x.1 hx.1 (by omega)]
theorem seg_mem : ∀ (c : Nat) (a : Int), ∀ y ∈ seg a c, a ≤ y
  | 0, _, y, h => by simp [seg] at h
  | c + 1, a, y, h => by
    rcases List.mem_cons.1 h with rfl | h
    · omega
    · have := seg_mem c (a + 1) y h; omega

/-- The reference's answer. -/
theorem rgather_f (mem : List Int) (l : List S44) (off n : Int) {k : Nat} (hk : 70000 ≤ k) :
    orpimentref09_Gather.f k mem l off n = some (if wth (prs l) off n = 0 then (if insideB mem.length (slicedL (prs l) off n) = true then (gatherI mem (slicedL (prs l) off n), 0) else ([], 11)) else ([], wth (prs l) off n)) := by
  obtain ⟨r, hr, hp⟩ := rslice_f l off n (k := k) (by omega)
  rw [orpimentref09_Gather.f, hr, Option.bind_some]
  by_cases h : wth (prs l) off n = 0
  · rw [if_pos h] at hp
    have hc : chk (prs l) = 0 := by
      unfold wth at h
      split at h
      · assumption
      · assumption
    obtain ⟨h1, h2, h3, h4⟩ := chk_zero hc
    have hoff : 0 ≤ off := by
      unfold wth at h
      rw [if_pos hc] at h
      split at h
      · cases h
      · omega
    have hf := fine_sliced (n := n) h1 h2 hoff
    rw [if_pos h, if_pos h, addrs_f (by rw [hp]; exact hf) hk, Option.bind_some, hp, rinside_f hf mem hk, Option.bind_some]
    by_cases g : insideB mem.length (slicedL (prs l) off n) = true
    · rw [if_pos g, if_pos g]
      have hlen := addrs_fine hf
      have hall : ∀ a ∈ addrs (slicedL (prs l) off n), 0 ≤ a ∧ a < mem.length := by
        intro a ha
        refine ⟨?_, ?_⟩
        · obtain ⟨x, hx, hax⟩ := List.mem_flatMap.1 ha
          have := seg_mem _ _ a hax
          have := (hf.2 x hx).1.1
          omega
        · have := addrs_inside mem.length _ (fun x hx => (hf.2 x hx).2.1)
          rw [g, List.all_eq_true] at this
          simpa using this a ha
      have := rgather_l0 mem _ (by omega) hall (addrs (slicedL (prs l) off n)).length k 0 [] (by omega) (by omega) (by simp)
      rw [show ((0 : Nat) : Int) = 0 from rfl, List.drop_zero, List.nil_append, addrs_map mem _ (fun x hx => ⟨(hf.2 x hx).1.1, by have := (hf.2 x hx).2.1; omega⟩) g] at this
      exact this
    · rw [if_neg g, if_neg g]
  · rw [if_neg h, if_neg h]
end Go.Proofs.Ytbojagkalbfenaa
namespace Go.Proofs.Ytbojagkalbfenaa
open Go.RowKit PIovGather Go.Proofs.YtbojagkalbfenaaW.PrintWords
attribute [local go_sem] ints_get ints_size ints_getElem

theorem pairs_of_C {w : World} {A : Option Addr} {l : List S44} (h : Kd.C k44 w A l.length l) : Pairs w A (prs l) := by
  intro i hi
  rw [prs_length] at hi
  obtain ⟨ad, e, h1, h2⟩ := at_T44 h (i : Int) (by omega) (by omega)
  have hg : (prs l).getD i (0, 0) = ((rd_T44 l i).f0, (rd_T44 l i).f1) := by simp [prs, rd_T44, List.getD_eq_getElem?_getD, List.getElem?_eq_getElem hi]
  rw [hg]
  exact ⟨ad, e, by simpa using h1, by simpa using h2⟩
/-- Gather's code. -/
def gcode (nm : Nat) (l : List (Int × Int)) (off n : Int) : Int := if wth l off n = 0 then (if insideB nm (slicedL l off n) = true then 0 else 11) else wth l off n
def gres (ds : List Value) (l : List (Int × Int)) (off n : Int) : List Value := if gcode ds.length l off n = 0 then gatherL ds (slicedL l off n) else []
theorem wth_zero {l : List (Int × Int)} {off n : Int} (h : wth l off n = 0) : okP l ∧ l.length ≤ 16 ∧ 0 ≤ sumL l ∧ sumL l ≤ 4096 ∧ 0 ≤ off ∧ 0 ≤ n ∧ off + n ≤ sumL l := by
  have hc : chk l = 0 := by
    unfold wth at h
    split at h
    · assumption
    · assumption
  obtain ⟨h1, h2, h3, h4⟩ := chk_zero hc
  unfold wth at h
  rw [if_pos hc] at h
  split at h
  · cases h
  · exact ⟨h1, h2, h3, h4, by omega, by omega, by omega⟩

theorem inside_l (M : Option Addr) (mlen mcap : Nat) (A : Option Addr) (cap : Nat) (l : List S44) (off n : Int) (w : World) (hp : Pairs w A (prs l)) (hA : ∀ ad, A = some ad → ad.block < w.heap.size) (hw : wth (prs l) off n = 0) (hml : mlen ≤ 9223372036854775807) :
    Calls Try.prog 34 #[.slice M mlen mcap, .slice A l.length cap, .int .i64 off, .int .i64 n] w fun e w' => e = .returned (.bool (insideB mlen (slicedL (prs l) off n))) ∧ Below w.heap.size w w' := by
  obtain ⟨h1, h2, h3, h4, h5, h6, h7⟩ := wth_zero hw
  have := callsIn_wide.1 (inside_in M mlen mcap A cap (prs l) off n w hp hA h1 (by omega) (by omega) h2 hml)
  rwa [prs_length] at this
theorem gather_l (M : Option Addr) (ds : List Value) (mcap : Nat) (A : Option Addr) (cap : Nat) (l : List S44) (off n : Int) (w : World) (hmem : Mem w M ds) (hp : Pairs w A (prs l)) (hA : ∀ ad, A = some ad → ad.block < w.heap.size) (hw : wth (prs l) off n = 0) (hml : ds.length ≤ mcap) (hmc : mcap ≤ 9223372036854775807)
    (hin : insideB ds.length (slicedL (prs l) off n) = true) :
    Calls Try.prog 35 #[.slice M ds.length mcap, .slice A l.length cap, .int .i64 off, .int .i64 n] w fun e w' => ∃ v, e = .returned v ∧ w'.ownsRow w.heap.size 5 1 v (gatherL ds (slicedL (prs l) off n)).length (gatherL ds (slicedL (prs l) off n)) ∧ Below w.heap.size w w' := by
  obtain ⟨h1, h2, h3, h4, h5, h6, h7⟩ := wth_zero hw
  have := callsIn_wide.1 (gather_in M ds mcap A cap (prs l) off n w hmem hp hA h1 (by omega) (by omega) h2 hml hmc hin)
  rwa [prs_length] at this

set_option maxHeartbeats 1000000 in
set_option maxRecDepth 100000 in
theorem gatherF (M : Option Addr) (ds : List Value) (mcap : Nat) (A : Option Addr) (cap : Nat) (l : List S44) (off n : Int) (P0 : Nat → Prop) (w : World) (hmem : Mem w M ds) (hV : Kd.V k44 44 w w.heap.size P0 (.slice A l.length cap) l)
    (hA : ∀ ad, A = some ad → ad.block < w.heap.size) (hml : ds.length ≤ mcap) (hmc : mcap ≤ 9223372036854775807) :
    Calls Try.prog 12 #[.slice M ds.length mcap, .slice A l.length cap, .int .i64 off, .int .i64 n] w fun e w' => ∃ v, e = .returned (.tuple #[v, .int .i64 (gcode ds.length (prs l) off n)]) ∧ w'.ownsRow w.heap.size 5 1 v (gres ds (prs l) off n).length (gres ds (prs l) off n) ∧ Below w.heap.size w w' := by
  have HM := Lib.hid hmem
  have HV := Lib.hid hV
  have HP := Lib.hid (pairs_of_C (Kd.V_reads' hV).2.2)
  have HA := Lib.hid hA
  clear hmem hV hA
  go_enter Try.func12, Try.ntmps12
  by_cases hw : wth (prs l) off n = 0
  · obtain ⟨h1, h2, h3, h4, h5, h6, h7⟩ := wth_zero hw
    have HOK := Lib.hid h1
    clear h1
    rw [prs_length] at h2
    by_cases hin : insideB ds.length (slicedL (prs l) off n) = true
    · have HIN := Lib.hid hin
      have hg : gcode ds.length (prs l) off n = 0 := by unfold gcode; rw [if_pos hw, if_pos hin]
      have hr : gres ds (prs l) off n = gatherL ds (slicedL (prs l) off n) := by unfold gres; rw [if_pos hg]
      go_wp2_with (first
        | (go_at_call 33; refine (iov_within.calls 60 P0 A cap l off n 0 w HV.out (by rw [within_f l off n (by omega), hw])).mono ?_; rintro e w1 ⟨rfl, hb1⟩)
        | (go_at_call 34; refine (inside_l M ds.length mcap A cap l off n _ (HP.out.below hb1) (fun ad e => Nat.lt_of_lt_of_le (HA.out ad e) hb1.size) hw (by omega)).mono ?_; rw [HIN.out]; rintro e w2 ⟨rfl, hb2⟩)
        | (go_at_call 35; refine (gather_l M ds mcap A cap l off n _ ((HM.out.below hb1).below hb2) ((HP.out.below hb1).below hb2) (fun ad e => Nat.lt_of_lt_of_le (Nat.lt_of_lt_of_le (HA.out ad e) hb1.size) hb2.size) hw hml hmc HIN.out).mono ?_; rintro e w3 ⟨v, rfl, ho, hb3⟩))
      go_ret2
      rw [hg, hr]
      refine ⟨v, rfl, owns_mono ho (Nat.le_trans hb1.size hb2.size), below_then' hb1 (below_then' hb2 hb3)⟩
    · have hin' : insideB ds.length (slicedL (prs l) off n) = false := by simpa using hin
      have HIN := Lib.hid hin'
      have hg : gcode ds.length (prs l) off n = 11 := by unfold gcode; rw [if_pos hw, if_neg hin]
      have hr : gres ds (prs l) off n = [] := by unfold gres; rw [if_neg (by rw [hg]; decide)]
      rw [hg, hr]
      go_wp2_with (first
        | (go_at_call 33; refine (iov_within.calls 60 P0 A cap l off n 0 w HV.out (by rw [within_f l off n (by omega), hw])).mono ?_; rintro e w1 ⟨rfl, hb1⟩)
        | (go_at_call 34; refine (inside_l M ds.length mcap A cap l off n _ (HP.out.below hb1) (fun ad e => Nat.lt_of_lt_of_le (HA.out ad e) hb1.size) hw (by omega)).mono ?_; rw [HIN.out]; rintro e w2 ⟨rfl, hb2⟩))
      go_ret2
      refine ⟨_, rfl, ⟨by simp, .inl ⟨rfl, rfl⟩⟩, ?_⟩
      exact below_then' hb1 hb2
  · have hg : gcode ds.length (prs l) off n = wth (prs l) off n := by unfold gcode; rw [if_neg hw]
    have hr : gres ds (prs l) off n = [] := by unfold gres; rw [if_neg (by rw [hg]; exact hw)]
    rw [hg, hr]
    go_wp2_with (first
      | (go_at_call 33; refine (iov_within.calls 60 P0 A cap l off n _ w HV.out (within_f l off n (by omega))).mono ?_; rintro e w1 ⟨rfl, hb1⟩))
    go_ret2
    refine ⟨_, rfl, ⟨by simp, .inl ⟨rfl, rfl⟩⟩, hb1⟩
end Go.Proofs.Ytbojagkalbfenaa
namespace Go.Proofs.Ytbojagkalbfenaa
set_option linter.unusedVariables false
set_option linter.unusedSimpArgs false
open Go.RowKit PIovGather Go.Proofs.YtbojagkalbfenaaW.PrintWords
attribute [local go_sem] Oper.semAt_some ints_get ints_size ints_getElem

theorem wpIn_round_plain {l n id : Nat} {P : Program} {ops : List Oper} {Q : Exit → Act → World → Prop} {a : Act} {w : World} (hQ : ¬ LetsOut Q) (hd : noDeferB ops.toArray = true)
    (h : wpList P ops.toArray Q ops a w) : (Code.region id ops.toArray false).wpIn (Fence.wide.inRound l) n P Q a w := by
  refine wpIn_region (wpOpsIn_of_wpOps hQ hd _ _ _ ?_)
  rw [List.range_eq_range', List.size_toArray, wpOps_eq_wpList ops 0 (fun j => by simp)]
  exact h

/-- The cells of a list of parts. -/
def pcs (l : List (Int × Int)) : List Value := l.flatMap fun p => [.int .i64 p.1, .int .i64 p.2]
theorem pcs_snoc (pre : List (Int × Int)) (x : Int × Int) : pcs (pre ++ [x]) = pcs pre ++ [.int .i64 x.1, .int .i64 x.2] := by simp [pcs]
theorem results_tmp2 {fn : Func} {p q : Tmp} (h : fn.results = #[.tmp p, .tmp q]) (tmps : Array Value) (P : Program) (w : World) : (results fn tmps).run P w = .ok (.tuple #[tmps.getD p undef, tmps.getD q undef]) w := by
  simp [results, h]

set_option maxHeartbeats 2000000 in
set_option maxRecDepth 100000 in
theorem slice_in (A : Option Addr) (cap : Nat) (l : List S44) (off n : Int) (P0 : Nat → Prop) (w : World) (hV : Kd.V k44 44 w w.heap.size P0 (.slice A l.length cap) l)
    (hA : ∀ ad, A = some ad → ad.block < w.heap.size) (hw : wth (prs l) off n = 0) :
    CallsIn Fence.wide 5 Try.prog 20 #[.slice A l.length cap, .int .i64 off, .int .i64 n] w fun e w' => ∃ v, e = .returned (.tuple #[v, .int .i64 0]) ∧ w'.ownsRow w.heap.size 44 2 v (slicedL (prs l) off n).length (pcs (slicedL (prs l) off n)) ∧ Below w.heap.size w w' := by
  obtain ⟨h1, h2, h3, h4, h5, h6, h7⟩ := wth_zero hw
  have hwi := iov_within.calls 60 P0 A cap l off n 0 w hV (by rw [within_f l off n (by omega), hw])
  have HP := Lib.hid (pairs_of_C (Kd.V_reads' hV).2.2)
  have HA := Lib.hid hA
  have HOK := Lib.hid h1
  rw [← prs_length l] at *
  generalize prs l = cs at *
  clear hV hA h1 hw
  have HWI := Lib.hid hwi
  clear hwi
  refine callsIn_of_wp_marks Try.func20 rfl trivial ?_ rfl
  simp only [Try.ntmps20, List.size_toArray, List.length_cons, List.length_nil, Nat.reduceAdd, Nat.reduceSub, Array.replicate_succ, Array.replicate_zero, List.push_toArray, List.append_toArray, List.nil_append, List.cons_append]
  gi_wp2_with (first
    | (refine ⟨trivial, ?_⟩; gi_at_call 33; refine (callsIn_wide.2 HWI.out).mono ?_; rintro e w1 ⟨rfl, hb1⟩)
    | (refine ⟨trivial, ?_⟩; gi_at_call 40; refine (callsIn_wide.2 (sliced_calls _ _ _ _ _ _)).mono ?_; rintro e w' ⟨rfl, rfl⟩))
  obtain ⟨W0, hW0⟩ : ∃ W0, w1.alloc (.cells #[.slice none 0 0] 23) = W0 := ⟨_, rfl⟩
  have hs0 : w1.heap.size + 1 = W0.heap.size := by rw [← hW0]; simp
  have hb0 : Below w.heap.size w W0 := by rw [← hW0]; exact hb1.alloc hb1.size _
  have hr0 : Boxed W0 w1.heap.size 23 (.slice none 0 0) := by rw [← hW0]; exact Boxed.new w1 23 _
  have hwB := hb1.size
  rw [hW0, hs0]
  generalize w1.heap.size = B at hs0 hr0 hwB ⊢
  have hbs := slW_below W0 A cs.length cap off n
  refine range_sliced A cap cs off n W0 (HP.out.below hb0) (fun ad e => by have := HA.out ad e; omega) HOK.out (by omega) (by omega) h2 rfl rfl
    (fun pre W => Below w.heap.size w W ∧ ∃ v, Boxed W B 23 v ∧ W.ownsRow (W0.heap.size + 3) 44 2 v pre.length (pcs pre))
    (fun c pre W => False)
    (fun pre x a₁ W => (Below w.heap.size w W ∧ ∃ v, Boxed W B 23 v ∧ W.ownsRow (W0.heap.size + 3) 44 2 v pre.length (pcs pre)) ∧ ∃ b, W0.heap.size + 3 ≤ b ∧ W.heap[b]? = some (.cells #[.int .i64 x.1, .int .i64 x.2] 44 (0, 0)) ∧
      a₁ = { tmps := #[.slice A cs.length cap, .int .i64 off, .int .i64 n, undef, undef, undef, .slice none 0 0, .int .i64 0, .int .i64 0, .pointer (some ⟨B, 0, none⟩), .pointer (some ⟨b, 0, none⟩), .slice A cs.length cap, .int .i64 off, .int .i64 n, .int .i64 0, .int .i64 0, .bool false, undef, .slice A cs.length cap, .int .i64 off, .int .i64 n,
        .func (.func 43) #[] #[.pointer (some ⟨W0.heap.size, 0, none⟩), .pointer (some ⟨W0.heap.size + 2, 0, none⟩), .pointer (some ⟨W0.heap.size + 1, 0, none⟩)], .agg #[.int .i64 x.1, .int .i64 x.2], undef, undef, undef, undef, undef], defers := [] })
    (fun pre W W' ⟨h2, v, h3, h4⟩ t => ⟨t.below h2 (Nat.le_refl _) (by omega) (by omega) (by omega), v, t.boxed h3 (by omega) (by omega), t.owns h4 (by omega) (by omega)⟩) (fun c pre W W' h t => h) ?tA ?start ?assign ?body ?done ?stop
  case tA =>
    rintro pre x a₁ W W' ⟨⟨h2, v, h3, h4⟩, b, h5, h6, h7⟩ t
    exact ⟨⟨t.below h2 (Nat.le_refl _) (by omega) (by omega) (by omega), v, t.boxed h3 (by omega) (by omega), t.owns h4 (by omega) (by omega)⟩, b, h5, t.cells h6 (by omega) (by omega), h7⟩
  case start => exact ⟨below_then' hb0 hbs, _, (hbs.block _ hr0.lt).trans hr0, by simp [pcs], .inl ⟨rfl, by simp [pcs]⟩⟩
  case assign =>
    intro l pre x W K hI hsz hK
    gi_wp2
    refine hK _ _ (KeepsOthers.alloc _ _) ((Below.refl _ _).alloc (Nat.le_refl _) _) ⟨?_, _, hsz, heap_alloc_new _ _, rfl⟩
    obtain ⟨h2, v, h3, h4⟩ := hI
    exact ⟨h2.alloc h2.size _, v, h3.alloc _, h4.alloc _⟩
  case body =>
    rintro l pre ⟨x1, x2⟩ a₁ W hal ⟨hx0, hx1⟩ ⟨hy0, hy1⟩ hsz ⟨⟨hI2, v, hv, hrow⟩, b, hb, hcell, rfl⟩
    have hc0 : W.cell? ⟨b, 0, none⟩ = some (.int .i64 x1) := by rw [cell_of_row _ _ _ _ _ _ hcell]; rfl
    have hc1 : W.cell? ⟨b, 1, none⟩ = some (.int .i64 x2) := by rw [cell_of_row _ _ _ _ _ _ hcell]; rfl
    have hcr := hv.cell
    have hfr := hv.frozen
    have hpl : pre.length ≤ 16 := by
      have h1 := hal.length_le
      have h2' := slicedL_length cs off n
      simp only [List.length_append, List.length_cons, List.length_nil] at h1
      omega
    obtain ⟨i0, hi0, hz0, hz1, hz2⟩ := info_parts (P := Try.prog) (e := 44) (z := .agg #[.int .i64 0, .int .i64 0]) (size := 2) (bytes := 16) (by kernel_rfl)
    have HI := Lib.hid (And.intro hI2 (And.intro hv hrow))
    have HI0 := Lib.hid hi0
    have HZZ := Lib.hid (And.intro hz0 (And.intro hz1 hz2))
    clear hI2 hv hrow hi0 hz0 hz1 hz2
    refine wpIn_block ?_
    refine wpIn_round_plain (by rintro ⟨a, w, h⟩; exact h) (by kernel_rfl) ?_
    go_wp2_with (at_builtin; go_loud (refine wpList_append_own _ rfl (.tmp 23) (.tmp 25) 23 rfl (W0.heap.size + 3) 44 i0 (.agg #[.int .i64 0, .int .i64 0]) 2 16 Try.underlying23 HI0.out HZZ.out.1 HZZ.out.2.1 HZZ.out.2.2 rfl (by omega) v _ (pcs pre) rfl (HI.out.2.2.alloc _) ⟨W.heap.size, 0, none⟩ 1 1 [.int .i64 x1, .int .i64 x2] rfl rfl (World.news_of_block (cs := #[.int .i64 x1, .int .i64 x2]) (t := 44) (fr := (0, 0)) (heap_alloc_new W _)) (by simp [Value.oneCell']) (by simp only [maxLen]; omega) (by omega) (by simp; omega) ?_; intro v' w2 hown' hgrow _; obtain ⟨g', cap', rfl⟩ := ownsRow_pos hown' (by omega); obtain ⟨a1, a2, a3, a4, a5, a6⟩ := out_appended (W := W.alloc (.cells #[.int .i64 x1, .int .i64 x2] 44)) (HI.out.2.1.alloc _) (by decide) (HI.out.2.2.alloc _) (by omega) (by simp; omega) hown' hgrow; have hcr' := a1.cell; have hfr' := a1.frozen; have HA5 := Lib.hid a5; clear a5))
    have hA5 : ∀ j, j < W0.heap.size + 3 → j ≠ B → (w2.setCell ⟨B, 0, none⟩ (.slice (some ⟨g', 0, none⟩) (pre.length + 1) cap')).heap[j]? = W.heap[j]? := fun j hj hne => (HA5.out j hj hne).trans (Below.heap_alloc _ _ _ (by omega))
    have HA6 := Lib.hid hA5
    clear hA5
    refine ⟨(KeepsOthers.alloc W _).trans a6, ⟨?ks, HA6.out _ (by omega) (by omega), HA6.out _ (by omega) (by omega), HA6.out _ (by omega) (by omega), fun ad e => HA6.out _ (by have := HA.out ad e; omega) (by have := HA.out ad e; omega)⟩, ?kw, _, a2, ?ko⟩
    case ks => have := a4.size; simp at this ⊢; omega
    case kw => exact HI.out.1.trans ⟨a4.os, a4.tape, a4.output, (by have := a4.size; simp at this ⊢; omega), fun k hk => HA6.out k (by omega) (by omega)⟩
    case ko => rw [pcs_snoc, List.length_append]; exact a3
  case done =>
    rintro D W hD ⟨h2, v, h3, h4⟩ hK
    have hcr := h3.cell
    have hfr := h3.frozen
    gi_wp2
    refine ⟨by simp, .inl ⟨_, _, rfl, run_takeDeferred hK, ?_⟩⟩
    exact ⟨_, results_tmp2 rfl _ _ _, v, rfl, ownsRow_putObj (owns_mono h4 (by omega)) _ hK rfl, h2.trans (belowK_b (w := w) (Nat.le_refl _) _ D _ _ (by omega) hK rfl rfl)⟩
  case stop =>
    intro D c pre W hD hpre h
    exact h.elim
def sres (l : List S44) (off n : Int) : List (Int × Int) := if wth (prs l) off n = 0 then slicedL (prs l) off n else []
/-- Slice, whatever it is given. -/
theorem sliceF (A : Option Addr) (cap : Nat) (l : List S44) (off n : Int) (P0 : Nat → Prop) (w : World) (hV : Kd.V k44 44 w w.heap.size P0 (.slice A l.length cap) l)
    (hA : ∀ ad, A = some ad → ad.block < w.heap.size) :
    Calls Try.prog 20 #[.slice A l.length cap, .int .i64 off, .int .i64 n] w fun e w' => ∃ v, e = .returned (.tuple #[v, .int .i64 (wth (prs l) off n)]) ∧ w'.ownsRow w.heap.size 44 2 v (sres l off n).length (pcs (sres l off n)) ∧ Below w.heap.size w w' := by
  by_cases hw : wth (prs l) off n = 0
  · rw [hw, show sres l off n = slicedL (prs l) off n from if_pos hw]
    exact callsIn_wide.1 (slice_in A cap l off n P0 w hV hA hw)
  · rw [show sres l off n = [] from if_neg hw]
    go_enter Try.func20, Try.ntmps20
    go_wp2_with (first
      | (go_at_call 33; refine (iov_within.calls 60 P0 A cap l off n _ w hV (within_f l off n (by omega))).mono ?_; rintro e w1 ⟨rfl, hb1⟩))
    go_ret2
    exact ⟨_, rfl, ⟨by simp [pcs], .inl ⟨rfl, rfl⟩⟩, hb1⟩
end Go.Proofs.Ytbojagkalbfenaa
namespace Go.Proofs.Ytbojagkalbfenaa
set_option linter.unusedVariables false
set_option linter.unusedSimpArgs false
open Go.RowKit PIovGather Go.Proofs.YtbojagkalbfenaaW.PrintWords
attribute [local go_sem] Oper.semAt_some ints_get ints_size ints_getElem

theorem wpList_copy_cells {P : Program} {w : World} {ops : Array Oper} {rest : List Oper} {o : Oper} {a : Act} {Q : Exit → Act → World → Prop} (hgd : o.guard = none) (d s : Operand) (dT sT : TypeId)
    (ho : o.op = .call { callee := .builtin .copy, args := #[d, s], argTypes := #[dT, sT] }) (elem : TypeId) (hu : P.underlying dT = some (.slice elem)) (hsz : (P.info? elem).map (·.size) = some 1)
    (b p dLen dCap : Nat) (ad : Addr) (sLen sCap : Nat) (hd : a.eval d = .slice (some ⟨b, p, none⟩) dLen dCap) (hs : a.eval s = .slice (some ad) sLen sCap)
    (cs : List Value) (hn : cs.length = Nat.min sLen dLen) (hsrc : ∀ j v, cs[j]? = some v → w.cell? (ad.add j) = some v) (hc : ∀ j, j < cs.length → (w.cell? ⟨b, p + j, none⟩).isSome = true) (hf : ∀ j, j < cs.length → w.frozen? ⟨b, p + j, none⟩ = false) (h1 : ∀ v ∈ cs, v.oneCell' = true)
    (h : wpList P ops Q rest (a.put o.dst (goInt cs.length)) (w.setCells b p cs)) : wpList P ops Q (o :: rest) a w := by
  refine wpList_plain hgd fun K hK => ?_
  have hrun := run_copy_cells (P := P) w dT sT o.type elem b p dLen dCap ad sLen sCap cs hu hsz hn hsrc hc hf h1
  unfold Oper.wp
  simp [execOp, ho, resolve, invoke, builtin, hd, hs, hrun, Result.andThen]
  exact hK _ _ h

/-- Data laid over a memory from a place on. -/
def wr (ms : List Value) (p : Nat) (vs : List Value) : List Value := ms.take p ++ vs ++ ms.drop (p + vs.length)
theorem wr_length {ms vs : List Value} {p : Nat} (h : p + vs.length ≤ ms.length) : (wr ms p vs).length = ms.length := by simp [wr]; omega
def scatS (s : List Value × List Value) (x : Int × Int) : List Value × List Value := (wr s.1 x.1.toNat (s.2.take x.2.toNat), s.2.drop x.2.toNat)
def scat (s : List Value × List Value) (xs : List (Int × Int)) : List Value × List Value := xs.foldl scatS s
theorem scat_snoc (s : List Value × List Value) (pre : List (Int × Int)) (x : Int × Int) : scat s (pre ++ [x]) = scatS (scat s pre) x := by simp [scat]
theorem sumL_slicedL : ∀ (l : List (Int × Int)) (off m : Int), 0 ≤ m → sumL (slicedL l off m) ≤ m
  | [], off, m, h => by simpa [slicedL, sumL] using h
  | p :: r, off, m, h => by
    simp only [slicedL]
    split
    · simpa [sumL] using h
    · split
      · exact sumL_slicedL r _ m h
      · have := sumL_slicedL r 0 (m - min (p.2 - off) m) (by omega)
        simp only [sumL]
        omega
theorem sumL_nonneg {l : List (Int × Int)} (h : ∀ x ∈ l, 1 ≤ x.2) : 0 ≤ sumL l := by
  induction l with
  | nil => simp [sumL]
  | cons x r ih =>
    have := ih (fun y hy => h y (List.mem_cons_of_mem _ hy))
    have := h x List.mem_cons_self
    simp only [sumL]; omega
theorem sumL_prefix {a b : List (Int × Int)} (h : a <+: b) (hb : ∀ x ∈ b, 1 ≤ x.2) : sumL a ≤ sumL b := by
  obtain ⟨t, rfl⟩ := h
  rw [sumL_append]
  have := sumL_nonneg (l := t) (fun x hx => hb x (List.mem_append_right _ hx))
  omega
/-- What is left of the data, and the memory's length, behind some parts. -/
theorem scat_rest (ms ds : List Value) : ∀ (xs : List (Int × Int)), (∀ x ∈ xs, 0 ≤ x.2) → (scat (ms, ds) xs).2 = ds.drop (sumL xs).toNat := by
  have key : ∀ (xs : List (Int × Int)) (ms ds : List Value), (∀ x ∈ xs, 0 ≤ x.2) → (xs.foldl scatS (ms, ds)).2 = ds.drop (sumL xs).toNat := by
    intro xs
    induction xs with
    | nil => intro ms ds _; simp [sumL]
    | cons x r ih =>
      intro ms ds h
      have h0 := h x List.mem_cons_self
      have hr : ∀ y ∈ r, 0 ≤ y.2 := fun y hy => h y (List.mem_cons_of_mem _ hy)
      have hs : 0 ≤ sumL r := by
        clear ih h
        induction r with
        | nil => simp [sumL]
        | cons y t iht => have := iht (fun z hz => hr z (List.mem_cons_of_mem _ hz)); have := hr y List.mem_cons_self; simp only [sumL]; omega
      simp only [List.foldl_cons, scatS]
      rw [ih _ _ hr, List.drop_drop]
      congr 1
      simp only [sumL]; omega
  exact fun xs h => key xs ms ds h

theorem Turn.row {s bn bo : Nat} {W W' : World} {base : Nat} {e : TypeId} {size : Nat} {v : Value} {k : Nat} {xs : List Value} (t : Turn s bn bo W W') (h : W.ownsRow base e size v k xs) (h1 : ∀ j, v.ownBlock = some j → j ≠ bn ∧ j ≠ bo) : W'.ownsRow base e size v k xs := by
  refine ⟨h.1, ?_⟩
  rcases h.2 with h0 | ⟨g, cap, cur, rfl, hb, hc, hr⟩
  · exact .inl h0
  · have := h1 g rfl
    exact .inr ⟨g, cap, cur, rfl, hb, t.cells hc this.1 this.2, hr⟩
theorem Turn.grown {s bn bo : Nat} {w W W' : World} {row : Option Nat} (t : Turn s bn bo W W') (h : w.grownBy W row) (h1 : w.heap.size ≤ bn) (h2 : w.heap.size ≤ bo) (h3 : w.heap.size ≤ s) : w.grownBy W' row := by
  refine ⟨t.os.trans h.os, t.tape.trans h.tape, t.output.trans h.output, Nat.le_trans h.size t.size, fun k hk hne => ?_⟩
  have hlt : k < W.heap.size := Nat.lt_of_lt_of_le hk h.size
  rw [← h.block k hk hne, Array.getElem?_eq_getElem hlt]
  exact t.block k _ (Array.getElem?_eq_getElem hlt) (by omega) (by omega) (.inl (by omega))
theorem Turn.mem {s bn bo : Nat} {W W' : World} {M : Option Addr} {ds : List Value} (t : Turn s bn bo W W') (h : Mem W M ds) (h1 : ∀ ad, M = some ad → ad.block < s ∧ ad.block ≠ bn ∧ ad.block ≠ bo) : Mem W' M ds :=
  ⟨fun j u hj => by
    obtain ⟨ad, e, hlt, hc⟩ := h.cell j u hj
    obtain ⟨a1, a2, a3⟩ := h1 ad e
    refine ⟨ad, e, Nat.lt_of_lt_of_le hlt t.size, ?_⟩
    have hk := t.block ad.block _ (Array.getElem?_eq_getElem hlt) a2 a3 (.inl a1)
    rw [World.cell?_of_block (w := W) (show W'.heap[(ad.add j).block]? = _ by rw [add_block, hk, Array.getElem?_eq_getElem hlt])]
    exact hc, h.one⟩
theorem own_frozen' {w : World} {base : Nat} {e : TypeId} {size n g cap : Nat} {xs : List Value} (h : w.ownsRow base e size (.slice (some ⟨g, 0, none⟩) n cap) n xs) (j : Nat) : w.frozen? ⟨g, j, none⟩ = false := by
  rcases h.2 with ⟨h2, _⟩ | ⟨g', cap', cur, he, _, hh, _⟩
  · cases h2
  · injection he with ha _ _
    injection ha with ha
    injection ha with hg
    subst hg
    simp [World.frozen?, hh]
theorem keeps_setCells (g : Nat) : ∀ (vs : List Value) (o : Nat) (W : World), KeepsOthers W (W.setCells g o vs)
  | [], _, W => KeepsOthers.refl W
  | v :: r, o, W => (KeepsOthers.setCell W ⟨g, o, none⟩ v).trans (keeps_setCells g r (o + 1) _)
/-- A piece of an own row is written. -/
theorem own_setCells {w : World} {base : Nat} {e : TypeId} {n g cap p : Nat} {xs vs : List Value} (h : w.ownsRow base e 1 (.slice (some ⟨g, 0, none⟩) n cap) n xs) (hp : p + vs.length ≤ n) :
    (w.setCells g p vs).ownsRow base e 1 (.slice (some ⟨g, 0, none⟩) n cap) n (wr xs p vs) := by
  obtain ⟨h1, h2⟩ := h
  rw [Nat.mul_one] at h1
  refine ⟨by rw [wr_length (by omega), Nat.mul_one]; exact h1, ?_⟩
  rcases h2 with ⟨h2, _⟩ | ⟨g', cap', cur, he, hb, hh, hn, hm, hs, ht⟩
  · cases h2
  · injection he with ha _ hc
    injection ha with ha
    injection ha with hg
    subst hg; subst hc
    rw [Nat.mul_one] at hs ht
    obtain ⟨cur', k1, k2, k3⟩ := setCells_row vs p w cur hh (by omega)
    refine .inr ⟨g, cap, cur', rfl, hb, k1, hn, hm, by rw [k2]; omega, ?_⟩
    rw [k3, Nat.mul_one, wr, ← ht, List.take_take, Nat.min_eq_left (by omega), List.append_assoc, List.append_assoc]
    have hl : cur.toList.length = cap := by simpa using hs
    rw [List.take_append, List.take_of_length_le (by simp; omega)]
    congr 1
    rw [List.length_take, hl, Nat.min_eq_left (by omega), List.take_append, List.take_of_length_le (by omega)]
    congr 1
    rw [List.drop_take]
    congr 1
    omega
end Go.Proofs.Ytbojagkalbfenaa
namespace Go.Proofs.Ytbojagkalbfenaa
set_option linter.unusedVariables false
set_option linter.unusedSimpArgs false
open Go.RowKit PIovGather Go.Proofs.YtbojagkalbfenaaW.PrintWords

def fine0 (l : List (Int × Int)) : Prop := l.length ≤ 16 ∧ ∀ x ∈ l, (0 ≤ x.1 ∧ x.1 ≤ 1099511631872) ∧ 0 ≤ x.2 ∧ x.2 ≤ 4096
theorem addrs0_l1 (r : List S44) (hf : fine0 (prs r)) (i : Nat) (hi : i < r.length) : ∀ (c m j : Nat) (out : List Int), j + c = (rd_T44 r i).f1.toNat → out.length + c ≤ 1000000 →
    orpimentref09_addresses.l1 (m + 1 + c) r out i j = orpimentref09_addresses.l0 m r (out ++ seg ((rd_T44 r i).f0 + j) c) ((i + 1 : Nat) : Int)
  | 0, m, j, out, hj, ho => by
    have hd := rd_prs r i hi
    have hl := hf.1
    rw [prs_length] at hl
    have hb := hf.2 ((rd_T44 r i).f0, (rd_T44 r i).f1) (List.mem_of_mem_drop (by rw [hd]; exact List.mem_cons_self))
    simp only at hb
    simp only [Nat.add_zero, orpimentref09_addresses.l1, show (0 : Int) ≤ (i : Int) by omega, show (i : Int) < (r.length : Int) by omega, show ¬ ((j : Int) < (rd_T44 r i).f1) by omega, if_true, if_false, seg, List.append_nil]
    rw [w64 (x := (i : Int) + 1) (by omega) (by omega)]
    rfl
  | c + 1, m, j, out, hj, ho => by
    have hd := rd_prs r i hi
    have hl := hf.1
    rw [prs_length] at hl
    have hb := hf.2 ((rd_T44 r i).f0, (rd_T44 r i).f1) (List.mem_of_mem_drop (by rw [hd]; exact List.mem_cons_self))
    simp only at hb
    have ih := addrs0_l1 r hf i hi c m (j + 1) (out ++ [(rd_T44 r i).f0 + j]) (by omega) (by simp; omega)
    rw [show m + 1 + (c + 1) = (m + 1 + c) + 1 by omega]
    simp only [orpimentref09_addresses.l1, show (0 : Int) ≤ (i : Int) by omega, show (i : Int) < (r.length : Int) by omega, show (j : Int) < (rd_T44 r i).f1 by omega, if_true]
    rw [if_pos (by omega), w64 (x := (j : Int) + 1) (by omega) (by omega), w64 (x := (rd_T44 r i).f0 + (j : Int)) (by omega) (by omega)]
    rw [show ((j + 1 : Nat) : Int) = (j : Int) + 1 by omega] at ih
    rw [ih]
    simp only [seg, List.append_assoc, List.singleton_append]
    rw [show (rd_T44 r i).f0 + ((j : Int) + 1) = (rd_T44 r i).f0 + (j : Int) + 1 by omega]

theorem addrs0_l0 (r : List S44) (hf : fine0 (prs r)) : ∀ (c k i : Nat) (out : List Int), i + c = r.length → 4098 * c < k → out.length ≤ 4096 * i →
    orpimentref09_addresses.l0 k r out i = some (out ++ addrs ((prs r).drop i))
  | 0, k + 1, i, out, hi, _, _ => by
    simp only [orpimentref09_addresses.l0, show ¬ ((i : Int) < (r.length : Int)) by omega, if_false]
    rw [List.drop_eq_nil_of_le (by rw [prs_length]; omega)]
    simp [addrs]
  | c + 1, k + 1, i, out, hi, hk, ho => by
    have hlt : i < r.length := by omega
    have hd := rd_prs r i hlt
    have hl := hf.1
    rw [prs_length] at hl
    have hb := hf.2 ((rd_T44 r i).f0, (rd_T44 r i).f1) (List.mem_of_mem_drop (by rw [hd]; exact List.mem_cons_self))
    simp only at hb
    have h1 := addrs0_l1 r hf i hlt (rd_T44 r i).f1.toNat (k - 1 - (rd_T44 r i).f1.toNat) 0 out (by omega) (by omega)
    rw [show k - 1 - (rd_T44 r i).f1.toNat + 1 + (rd_T44 r i).f1.toNat = k by omega, show ((0 : Nat) : Int) = 0 from rfl, Int.add_zero] at h1
    simp only [orpimentref09_addresses.l0, show (i : Int) < (r.length : Int) by omega, if_true]
    rw [h1, addrs0_l0 r hf c _ (i + 1) _ (by omega) (by omega) (by rw [List.length_append, seg_length]; omega), hd]
    simp [addrs]
theorem addrs0_f {r : List S44} (hf : fine0 (prs r)) {k : Nat} (hk : 70000 ≤ k) : orpimentref09_addresses.f k r = some (addrs (prs r)) := by
  have hl := hf.1
  rw [prs_length] at hl
  have := addrs0_l0 r hf r.length k 0 [] (by omega) (by omega) (by simp)
  simpa [orpimentref09_addresses.f] using this

theorem seg_append (a : Int) : ∀ (c d : Nat), seg a (c + d) = seg a c ++ seg (a + c) d
  | 0, d => by simp [seg]
  | c + 1, d => by
    rw [show c + 1 + d = (c + d) + 1 by omega]
    simp only [seg, List.cons_append]
    rw [seg_append (a + 1) c d, show a + 1 + (c : Int) = a + ((c + 1 : Nat) : Int) by omega]
theorem seg_drop (a : Int) (c k : Nat) (h : k ≤ c) : (seg a c).drop k = seg (a + k) (c - k) := by
  rw [show c = k + (c - k) by omega, seg_append, List.drop_append, List.drop_eq_nil_of_le (by rw [seg_length]; omega), seg_length]
  simp
theorem seg_take (a : Int) (c k : Nat) : (seg a c).take k = seg a (min k c) := by
  rcases Nat.le_total k c with h | h
  · rw [show c = k + (c - k) by omega, seg_append, List.take_append, seg_length, Nat.min_eq_left (by omega), List.take_of_length_le (by rw [seg_length]; omega)]
    simp
  · rw [List.take_of_length_le (by rw [seg_length]; exact h), Nat.min_eq_right h]
/-- The addresses of a slice's bytes. -/
theorem addrs_sliced : ∀ (l : List (Int × Int)) (off m : Int), (∀ p ∈ l, 0 ≤ p.2) → 0 ≤ off → 0 ≤ m → addrs (slicedL l off m) = ((addrs l).drop off.toNat).take m.toNat
  | [], off, m, _, _, _ => by simp [slicedL, addrs]
  | p :: r, off, m, h, h0, h1 => by
    have hp := h p List.mem_cons_self
    have hr : ∀ q ∈ r, 0 ≤ q.2 := fun q hq => h q (List.mem_cons_of_mem _ hq)
    have hc : addrs (p :: r) = seg p.1 p.2.toNat ++ addrs r := by simp [addrs]
    simp only [slicedL]
    rw [hc]
    split
    · rw [show m.toNat = 0 by omega]; simp [addrs]
    · split
      · have hz : (seg p.1 p.2.toNat).drop off.toNat = [] := List.drop_eq_nil_of_le (by rw [seg_length]; omega)
        rw [addrs_sliced r (off - p.2) m hr (by omega) h1, List.drop_append, seg_length, hz, List.nil_append]
        congr 2
        omega
      · have ih := addrs_sliced r 0 (m - min (p.2 - off) m) hr (by omega) (by omega)
        rw [show addrs ((p.1 + off, min (p.2 - off) m) :: slicedL r 0 (m - min (p.2 - off) m)) = seg (p.1 + off) (min (p.2 - off) m).toNat ++ addrs (slicedL r 0 (m - min (p.2 - off) m)) by simp [addrs], ih]
        rw [List.drop_append, seg_length, seg_drop _ _ _ (by omega), show off.toNat - p.2.toNat = 0 by omega, List.drop_zero, List.take_append, seg_take, seg_length, Int.toNat_zero, List.drop_zero]
        rw [show p.1 + ((off.toNat : Nat) : Int) = p.1 + off by omega, show min m.toNat (p.2.toNat - off.toNat) = (min (p.2 - off) m).toNat by omega]
        congr 2
        omega
/-- One byte after the other. -/
def setL : List Value → List Int → List Value → List Value
  | ms, a :: ss, d :: ds => setL (ms.set a.toNat d) ss ds
  | ms, _, _ => ms
theorem setL_length : ∀ (ss : List Int) (ms ds : List Value), (setL ms ss ds).length = ms.length
  | [], ms, ds => by simp [setL]
  | a :: ss, ms, [] => by simp [setL]
  | a :: ss, ms, d :: ds => by simp only [setL]; rw [setL_length ss]; simp
theorem wr_cons (ms : List Value) (p : Nat) (d : Value) (vs : List Value) (h : p < ms.length) : wr (ms.set p d) (p + 1) vs = wr ms p (d :: vs) := by
  have h1 : (ms.set p d).take (p + 1) = ms.take p ++ [d] := by
    rw [List.take_succ_eq_append_getElem (by simpa using h), List.take_set, List.set_eq_of_length_le (by simp; omega)]
    simp
  have h2 : (ms.set p d).drop (p + 1 + vs.length) = ms.drop (p + 1 + vs.length) := by
    rw [List.drop_set_of_lt (by omega)]
  simp only [wr, h1, h2, List.append_assoc, List.cons_append, List.nil_append, List.length_cons]
  congr 4
  omega
theorem setL_seg : ∀ (c : Nat) (a : Int) (ms ds : List Value) (rest : List Int), 0 ≤ a → a + c ≤ ms.length → c ≤ ds.length → setL ms (seg a c ++ rest) ds = setL (wr ms a.toNat (ds.take c)) rest (ds.drop c)
  | 0, a, ms, ds, rest, _, _, _ => by simp [seg, wr]
  | c + 1, a, ms, [], rest, _, _, h => by simp at h
  | c + 1, a, ms, d :: ds, rest, h0, h1, h2 => by
    simp only [seg, List.cons_append, setL, List.take_succ_cons, List.drop_succ_cons]
    rw [setL_seg c (a + 1) _ ds rest (by omega) (by simp; omega) (by simpa using h2), show (a + 1).toNat = a.toNat + 1 by omega, wr_cons _ _ _ _ (by omega)]
theorem setL_scat : ∀ (xs : List (Int × Int)) (ms ds : List Value), (∀ x ∈ xs, 0 ≤ x.1 ∧ 1 ≤ x.2) → insideB ms.length xs = true → sumL xs ≤ ds.length → setL ms (addrs xs) ds = (scat (ms, ds) xs).1
  | [], ms, ds, _, _, _ => by simp [addrs, setL, scat]
  | x :: r, ms, ds, h, hin, hs => by
    have hx := h x List.mem_cons_self
    have hr : ∀ y ∈ r, 0 ≤ y.1 ∧ 1 ≤ y.2 := fun y hy => h y (List.mem_cons_of_mem _ hy)
    have hn := sumL_nonneg (l := r) (fun y hy => (hr y hy).2)
    simp only [insideB, List.all_cons, Bool.and_eq_true, decide_eq_true_eq] at hin
    simp only [sumL] at hs
    have hw : (wr ms x.1.toNat (ds.take x.2.toNat)).length = ms.length := wr_length (by rw [List.length_take]; omega)
    rw [show addrs (x :: r) = seg x.1 x.2.toNat ++ addrs r by simp [addrs], setL_seg _ _ _ _ _ hx.1 (by omega) (by omega)]
    rw [setL_scat r _ _ hr (by rw [hw]; exact hin.2) (by rw [List.length_drop]; omega)]
    simp [scat, scatS]
end Go.Proofs.Ytbojagkalbfenaa
namespace Go.Proofs.Ytbojagkalbfenaa
set_option linter.unusedVariables false
set_option linter.unusedSimpArgs false
open Go.RowKit PIovGather Go.Proofs.YtbojagkalbfenaaW.PrintWords
attribute [local go_sem] Oper.semAt_some ints_get ints_size ints_getElem

theorem results_none {fn : Func} (h : fn.results = #[]) (tmps : Array Value) (P : Program) (w : World) : (results fn tmps).run P w = .ok (.tuple #[]) w := by
  simp [results, h]
/-- A memory that may be written: an own row (its block: row), or an empty slice, wherever it lies (row: none). -/
def MRow (W : World) (base : Nat) (row : Option Nat) (v : Value) (n : Nat) (ms : List Value) : Prop := (n = 0 ∧ row = none ∧ ms = []) ∨ (row = v.ownBlock ∧ W.ownsRow base 5 1 v n ms)
theorem MRow.length {W : World} {base : Nat} {row : Option Nat} {v : Value} {n : Nat} {ms : List Value} (h : MRow W base row v n ms) : ms.length = n := by
  rcases h with ⟨h1, _, rfl⟩ | ⟨_, h2⟩
  · simp [h1]
  · have := h2.1; omega
theorem MRow.move {W W' : World} {base : Nat} {row : Option Nat} {v : Value} {n : Nat} {ms : List Value} (h : MRow W base row v n ms) (hm : ∀ k, row = some k → W'.heap[k]? = W.heap[k]?) : MRow W' base row v n ms := by
  rcases h with h | ⟨h1, h2⟩
  · exact .inl h
  · exact .inr ⟨h1, own_move h2 (fun k hk => hm k (h1.trans hk))⟩
theorem MRow.lt {W : World} {base : Nat} {row : Option Nat} {v : Value} {n : Nat} {ms : List Value} (h : MRow W base row v n ms) : ∀ k, row = some k → k < W.heap.size := by
  intro k hk
  rcases h with ⟨_, h, _⟩ | ⟨h1, h2⟩
  · rw [h] at hk; cases hk
  · exact own_lt' h2 k (h1 ▸ hk)
/-- What holds between the parts of scatter: the memory's row, what is left of the data. -/
structure Scat (w : World) (B base n : Nat) (row : Option Nat) (v : Value) (ms ds : List Value) (W : World) : Prop where
  grown : w.grownBy W row
  box : Boxed W B 22 v
  mem : MRow W base row v n ms
  data : ∃ D c, Boxed W (B + 1) 22 (.slice D ds.length c) ∧ Mem W D ds ∧ ds.length ≤ c ∧ c ≤ 9223372036854775807 ∧ ∀ ad, D = some ad → ad.block < w.heap.size ∧ some ad.block ≠ row
theorem Scat.turn {w : World} {B base n : Nat} {row : Option Nat} {v : Value} {ms ds : List Value} {s bn bo : Nat} {W W' : World} (h : Scat w B base n row v ms ds W) (t : Turn s bn bo W W') (h1 : w.heap.size ≤ B) (h2 : B + 1 < bn) (h3 : B + 1 < bo) (h4 : B + 1 < s) (hv : ∀ j, row = some j → j < w.heap.size) : Scat w B base n row v ms ds W' := by
  obtain ⟨a1, a2, a3, D, c, a4, a5, a6, a7, a8⟩ := h
  refine ⟨t.grown a1 (by omega) (by omega) (by omega), t.boxed a2 (by omega) (by omega), a3.move (fun k hk => ?_), D, c, t.boxed a4 (by omega) (by omega), t.mem a5 (fun ad e => by have := (a8 ad e).1; omega), a6, a7, a8⟩
  have hlt := a3.lt k hk
  have := hv k hk
  rw [Array.getElem?_eq_getElem hlt]
  exact t.block k _ (Array.getElem?_eq_getElem hlt) (by omega) (by omega) (.inl (by omega))
theorem Scat.below {w : World} {B base n : Nat} {row : Option Nat} {v : Value} {ms ds : List Value} {W W' : World} (h : Scat w B base n row v ms ds W) (hb : Below W.heap.size W W') : Scat w B base n row v ms ds W' := by
  obtain ⟨a1, a2, a3, D, c, a4, a5, a6, a7, a8⟩ := h
  refine ⟨⟨hb.os.trans a1.os, hb.tape.trans a1.tape, hb.output.trans a1.output, Nat.le_trans a1.size hb.size, fun k hk hne => (hb.block k (Nat.lt_of_lt_of_le hk a1.size)).trans (a1.block k hk hne)⟩, (hb.block _ a2.lt).trans a2, a3.move (fun k hk => hb.block k (a3.lt k hk)), D, c, (hb.block _ a4.lt).trans a4, a5.below hb, a6, a7, a8⟩
theorem Scat.alloc {w : World} {B base n : Nat} {row : Option Nat} {v : Value} {ms ds : List Value} {W : World} (h : Scat w B base n row v ms ds W) (o : Obj) : Scat w B base n row v ms ds (W.alloc o) := h.below ((Below.refl _ _).alloc (Nat.le_refl _) _)
theorem grownBy_trans_keep {w W W' : World} {row : Option Nat} (h : w.grownBy W row) (h1 : W'.os = W.os) (h2 : W'.tape = W.tape) (h3 : W'.output = W.output) (h4 : W.heap.size ≤ W'.heap.size) (h5 : ∀ k, k < w.heap.size → some k ≠ row → W'.heap[k]? = W.heap[k]?) : w.grownBy W' row :=
  ⟨h1.trans h.os, h2.trans h.tape, h3.trans h.output, Nat.le_trans h.size h4, fun k hk hne => (h5 k hk hne).trans (h.block k hk hne)⟩
theorem mem_drop {W : World} {M : Addr} {ds : List Value} (h : Mem W (some M) ds) (k : Nat) : Mem W (some (M.add k)) (ds.drop k) :=
  ⟨fun j u hj => by
    rw [List.getElem?_drop] at hj
    obtain ⟨ad, e, hlt, hc⟩ := h.cell _ _ hj
    cases e
    exact ⟨_, rfl, by rw [add_block]; exact hlt, by rw [add_plus]; exact hc⟩, fun u hu => h.one u (List.mem_of_mem_drop hu)⟩
theorem mem_nil {W : World} {M : Option Addr} {ds : List Value} (h : ds = []) : Mem W M ds := by
  subst h
  exact ⟨fun j u hj => by simp at hj, fun u hu => by simp at hu⟩

set_option maxHeartbeats 2000000 in
set_option maxRecDepth 100000 in
theorem scatter_in (A : Option Addr) (cap : Nat) (cs : List (Int × Int)) (off : Int) (V : Option Addr) (vc base n : Nat) (row : Option Nat) (ms : List Value) (D : Option Addr) (dcap : Nat) (ds : List Value) (w : World)
    (hown : MRow w base row (.slice V n vc) n ms) (hmem : Mem w D ds) (hdc : ds.length ≤ dcap) (hdm : dcap ≤ 9223372036854775807) (hD : ∀ ad, D = some ad → ad.block < w.heap.size ∧ some ad.block ≠ row)
    (hp : Pairs w A cs) (hA : ∀ ad, A = some ad → ad.block < w.heap.size ∧ some ad.block ≠ row) (hok : okP cs) (hoff : 0 ≤ off ∧ off ≤ 1099511627776) (hdl : ds.length ≤ 1099511627776) (hlen : cs.length ≤ 16) (hin : insideB n (slicedL cs off ds.length) = true) :
    CallsIn Fence.wide 5 Try.prog 41 #[.slice V n vc, .slice A cs.length cap, .int .i64 off, .slice D ds.length dcap] w fun e w' => e = .returned (.tuple #[]) ∧ MRow w' base row (.slice V n vc) n (scat (ms, ds) (slicedL cs off ds.length)).1 ∧ w.grownBy w' row := by
  have HP := Lib.hid hp
  have HA := Lib.hid hA
  have HD := Lib.hid hD
  have HOK := Lib.hid hok
  have HIN := Lib.hid hin
  have HM := Lib.hid hmem
  have HO := Lib.hid hown
  have HV : Hid (∀ j, row = some j → j < w.heap.size) := Lib.hid hown.lt
  clear hp hA hD hok hin hmem hown
  refine callsIn_of_wp_marks Try.func41 rfl trivial ?_ rfl
  simp only [Try.ntmps41, List.size_toArray, List.length_cons, List.length_nil, Nat.reduceAdd, Nat.reduceSub, Array.replicate_succ, Array.replicate_zero, List.push_toArray, List.append_toArray, List.nil_append, List.cons_append]
  gi_wp2_with (refine ⟨trivial, ?_⟩; gi_at_call 40; refine (callsIn_wide.2 (sliced_calls _ _ _ _ _ _)).mono ?_; rintro e w' ⟨rfl, rfl⟩)
  obtain ⟨W0, hW0⟩ : ∃ W0, (w.alloc (.cells #[.slice V n vc] 22)).alloc (.cells #[.slice D ds.length dcap] 22) = W0 := ⟨_, rfl⟩
  have hs0 : w.heap.size + 1 + 1 = W0.heap.size := by rw [← hW0]; simp
  have hb0 : Below w.heap.size w W0 := by rw [← hW0]; exact ((Below.refl _ _).alloc (Nat.le_refl _) _).alloc (by simp) _
  have hst : Scat w w.heap.size base n row (.slice V n vc) ms ds W0 := by
    rw [← hW0]
    refine ⟨by rw [hW0]; exact grown_of_below' hb0 _, (Boxed.new w 22 _).alloc _, by rw [hW0]; exact HO.out.move (fun k hk => hb0.block k (HV.out k hk)), D, dcap, ?_, by rw [hW0]; exact HM.out.below hb0, hdc, hdm, HD.out⟩
    have := Boxed.new (w.alloc (.cells #[.slice V n vc] 22)) 22 (.slice D ds.length dcap)
    simpa using this
  rw [hW0, hs0]
  have hbs := slW_below W0 A cs.length cap off ds.length
  have hsum : ∀ pre x, pre ++ [x] <+: slicedL cs off ds.length → sumL pre + x.2 ≤ ds.length ∧ (∀ y ∈ pre, 0 ≤ y.2) := fun pre x hal => by
    have hall : ∀ y ∈ slicedL cs off ds.length, 1 ≤ y.2 := fun y hy => (slicedL_mem HOK.out hoff.1 y hy).2.1
    have h1 := sumL_prefix hal hall
    have h2 := sumL_slicedL cs off ds.length (by omega)
    rw [sumL_append] at h1
    simp only [sumL] at h1
    exact ⟨by omega, fun y hy => by have := hall y (hal.subset (List.mem_append_left _ hy)); omega⟩
  have HSUM := Lib.hid hsum
  clear hsum
  refine range_sliced A cap cs off ds.length W0 (HP.out.below hb0) (fun ad e => by have := (HA.out ad e).1; omega) HOK.out hoff (by omega) hlen rfl rfl
    (fun pre W => Scat w w.heap.size base n row (.slice V n vc) (scat (ms, ds) pre).1 (scat (ms, ds) pre).2 W)
    (fun c pre W => False)
    (fun pre x a₁ W => Scat w w.heap.size base n row (.slice V n vc) (scat (ms, ds) pre).1 (scat (ms, ds) pre).2 W ∧ ∃ b, W0.heap.size + 3 ≤ b ∧ W.heap[b]? = some (.cells #[.int .i64 x.1, .int .i64 x.2] 44 (0, 0)) ∧
      a₁ = { tmps := #[.slice V n vc, .slice A cs.length cap, .int .i64 off, .slice D ds.length dcap, .pointer (some ⟨w.heap.size, 0, none⟩), undef, undef, .pointer (some ⟨w.heap.size + 1, 0, none⟩), .pointer (some ⟨b, 0, none⟩), .slice A cs.length cap, .int .i64 off, .slice D ds.length dcap, .int .i64 ds.length, .func (.func 43) #[] #[.pointer (some ⟨W0.heap.size, 0, none⟩), .pointer (some ⟨W0.heap.size + 2, 0, none⟩), .pointer (some ⟨W0.heap.size + 1, 0, none⟩)], .agg #[.int .i64 x.1, .int .i64 x.2], undef, undef, undef, undef, undef, undef, undef, undef, undef, undef, undef, undef, undef, undef, undef], defers := [] })
    (fun pre W W' h t => h.turn t (Nat.le_refl _) (by omega) (by omega) (by omega) HV.out) (fun c pre W W' h t => h) ?tA ?start ?assign ?body ?done ?stop
  case tA =>
    rintro pre x a₁ W W' ⟨h, b, h5, h6, h7⟩ t
    exact ⟨h.turn t (Nat.le_refl _) (by omega) (by omega) (by omega) HV.out, b, h5, t.cells h6 (by omega) (by omega), h7⟩
  case start => exact hst.below hbs
  case assign =>
    intro l pre x W K hI hsz hK
    gi_wp2
    refine hK _ _ (KeepsOthers.alloc _ _) ((Below.refl _ _).alloc (Nat.le_refl _) _) ⟨hI.alloc _, _, hsz, heap_alloc_new _ _, rfl⟩
  case body =>
    rintro l pre ⟨x1, x2⟩ a₁ W hal ⟨hx0, hx1⟩ ⟨hy0, hy1⟩ hsz ⟨hI, b, hb, hcell, rfl⟩
    have hc0 : W.cell? ⟨b, 0, none⟩ = some (.int .i64 x1) := by rw [cell_of_row _ _ _ _ _ _ hcell]; rfl
    have hc1 : W.cell? ⟨b, 1, none⟩ = some (.int .i64 x2) := by rw [cell_of_row _ _ _ _ _ _ hcell]; rfl
    simp only at hx0 hx1 hy0 hy1
    have hsn := HSUM.out pre _ hal
    have hrl : (scat (ms, ds) pre).2.length = ds.length - (sumL pre).toNat := by rw [scat_rest ms ds pre hsn.2, List.length_drop]
    have hs0' : 0 ≤ sumL pre := sumL_nonneg (fun y hy => (slicedL_mem HOK.out hoff.1 y (hal.subset (List.mem_append_left _ hy))).2.1)
    have hsn1 := hsn.1
    simp only at hsn1
    have hle : x1 + x2 ≤ n := by
      have : insideB n (pre ++ [(x1, x2)]) = true := by
        obtain ⟨q, hq⟩ := hal
        have h := HIN.out
        rw [← hq] at h
        simp only [insideB, List.all_append, Bool.and_eq_true] at h
        simp only [insideB, List.all_append, Bool.and_eq_true]
        exact h.1
      rw [insideB_snoc, Bool.and_eq_true] at this
      simpa using this.2
    have hsc : scat (ms, ds) (pre ++ [(x1, x2)]) = scatS (scat (ms, ds) pre) (x1, x2) := scat_snoc _ _ _
    generalize scat (ms, ds) pre = sc at hI hrl hsc
    obtain ⟨m1, r1⟩ := sc
    simp only [scatS] at hI hrl hsc
    obtain ⟨a1, a2, a3o, D', c', a4, a5, a6, a7, a8⟩ := hI
    obtain ⟨ad, rfl⟩ : ∃ ad, D' = some ad := by
      obtain ⟨ad, h, _⟩ := a5.cell 0 r1[0] (List.getElem?_eq_getElem (by omega))
      exact ⟨ad, h⟩
    obtain ⟨hrw, a3⟩ : row = (Value.slice V n vc).ownBlock ∧ W.ownsRow base 5 1 (.slice V n vc) n m1 := by
      rcases a3o with ⟨h, _⟩ | h
      · omega
      · exact h
    clear a3o
    obtain ⟨g, vc', hv⟩ := ownsRow_pos a3 (by omega)
    injection hv with hV _ hvc
    subst hV; subst hvc
    obtain rfl : row = some g := hrw
    have hvn : n ≤ vc ∧ vc ≤ 9223372036854775807 := by
      rcases a3.2 with ⟨h, _⟩ | ⟨_, _, _, h, _, _, h1, h2, _⟩
      · cases h
      · injection h with _ _ h3
        subst h3
        simp only [maxLen] at h2
        exact ⟨h1, h2⟩
    have hcv := a2.cell
    have hcd := a4.cell
    have hfd := a4.frozen
    have hwr : IntKind.i64.wrap (x1 + x2) = x1 + x2 := by rw [IntKind.wrap_i64]; omega
    have hne : ¬ vc = x1.toNat := by omega
    have h0s : 0 ≤ x1 + x2 := by omega
    have h1s : x1 ≤ max (x1 + x2) 0 := by omega
    have hcap : x1 + x2 ≤ vc := by omega
    have hgl : g < w.heap.size := HV.out g rfl
    have HI := Lib.hid (And.intro a1 (And.intro a2 (And.intro a3 (And.intro a4 (And.intro a5 a8)))))
    have HSC := Lib.hid hsc
    have hx2r : x2 ≤ (r1.length : Int) := by omega
    have hx2n : x2.toNat ≤ r1.length := by omega
    clear a1 a2 a3 a4 a5 a8 hsc hrl hsn hsn1
    gi_wp2
    refine wpIn_round_still_tail 10 (by rintro ⟨a, w, h⟩; exact h) (by kernel_rfl) (by kernel_rfl) (by kernel_rfl) ?_
    simp only [List.take_succ_cons, List.take_zero, List.drop_succ_cons, List.drop_zero]
    iterate 10 ((with_reducible refine wpStill_step (fun K hK => ?_)); have HK := Lib.hid hK; clear hK; go_simp; (with_reducible refine HK.out _ ?_); clear HK K)
    (with_reducible refine wpStill_nil ?_)
    refine wpList_copy_cells rfl (.tmp 23) (.tmp 24) 22 22 rfl 5 Try.underlying22 (by kernel_rfl) g x1.toNat _ _ ad _ _ rfl rfl (r1.take x2.toNat) ?hn ?src ?hc ?hf ?one ?_
    case hn => rw [List.length_take, Nat.min_comm]; show min _ _ = min _ _; omega
    case src =>
      intro j u hj
      have hj' : r1[j]? = some u := by
        rw [List.getElem?_take] at hj
        split at hj
        · exact hj
        · cases hj
      obtain ⟨ad', e, _, h⟩ := HI.out.2.2.2.2.1.cell _ _ hj'
      cases e
      exact h
    case hc =>
      intro j hj
      have hm1 : m1.length = n := by have := HI.out.2.2.1.1; omega
      have hj2 : x1.toNat + j < m1.length := by simp only [List.length_take] at hj; omega
      have := HI.out.2.2.1.cells (g := g) rfl _ _ (List.getElem?_eq_getElem hj2)
      rw [add_at, Nat.zero_add] at this
      exact Option.isSome_iff_exists.2 ⟨_, this⟩
    case hf => exact fun j _ => own_frozen' HI.out.2.2.1 _
    case one => exact fun u hu => HI.out.2.2.2.2.1.one u (List.mem_of_mem_take hu)
    have hsame := setCells_same g (r1.take x2.toNat) x1.toNat W.drew
    have hfar0 : ∀ j, j ≠ g → (W.drew.setCells g x1.toNat (r1.take x2.toNat)).heap[j]? = W.heap[j]? := fun j hj => setCells_far (r1.take x2.toNat) x1.toNat (w := W.drew) j hj
    have hkp : KeepsOthers W (W.drew.setCells g x1.toNat (r1.take x2.toNat)) := (KeepsOthers.drew W).trans (keeps_setCells g _ _ W.drew)
    have hrow1 : (W.drew.setCells g x1.toNat (r1.take x2.toNat)).ownsRow base 5 1 (.slice (some ⟨g, 0, none⟩) n vc) n (wr m1 x1.toNat (r1.take x2.toNat)) := own_setCells (w := W.drew) HI.out.2.2.1 (by simp only [List.length_take]; omega)
    show wpList _ _ _ _ _ (W.drew.setCells g x1.toNat (r1.take x2.toNat))
    generalize W.drew.setCells g x1.toNat (r1.take x2.toNat) = W1 at hsame hfar0 hkp hrow1 ⊢
    have hbx : Boxed W1 (w.heap.size + 1) 22 (.slice (some ad) r1.length c') := (hfar0 _ (by omega)).trans HI.out.2.2.2.1
    have hcd1 := hbx.cell
    have hfd1 := hbx.frozen
    have hcell1 : W1.heap[b]? = some (.cells #[.int .i64 x1, .int .i64 x2] 44 (0, 0)) := (hfar0 _ (by omega)).trans hcell
    have hc01 : W1.cell? ⟨b, 0, none⟩ = some (.int .i64 x1) := by rw [cell_of_row _ _ _ _ _ _ hcell1]; rfl
    have hc11 : W1.cell? ⟨b, 1, none⟩ = some (.int .i64 x2) := by rw [cell_of_row _ _ _ _ _ _ hcell1]; rfl
    have HFAR := Lib.hid (And.intro hfar0 (And.intro hsame (And.intro hkp (And.intro hrow1 hbx))))
    clear hfar0 hsame hkp hrow1 hbx hc0 hc1 hcell hcv hcd hfd hcell1
    go_wp2
    refine wpIn_round_plain (by rintro ⟨a, w, h⟩; exact h) (by kernel_rfl) ?_
    have hmem1 : Mem W1 (some ad) r1 := by
      have hne : ad.block ≠ g := fun e => (HI.out.2.2.2.2.2 ad rfl).2 (by rw [e])
      refine ⟨fun j u hj => ?_, HI.out.2.2.2.2.1.one⟩
      obtain ⟨ad', e, hlt, hc⟩ := HI.out.2.2.2.2.1.cell j u hj
      cases e
      refine ⟨ad, rfl, by rw [HFAR.out.2.1.2.2.2]; exact hlt, ?_⟩
      rw [World.cell?_of_block (w := W) (show W1.heap[(ad.add j).block]? = _ by rw [add_block]; exact HFAR.out.1 _ hne)]
      exact hc
    have fin : ∀ (D2 : Option Addr) (c2 : Nat), Mem W1 D2 (r1.drop x2.toNat) → r1.length - x2.toNat ≤ c2 → c2 ≤ 9223372036854775807 → (∀ ad', D2 = some ad' → ad'.block < w.heap.size ∧ some ad'.block ≠ some g) →
        KeepsOthers W (W1.setCell ⟨w.heap.size + 1, 0, none⟩ (.slice D2 (r1.length - x2.toNat) c2)) ∧ KeepS W0.heap.size (W0.heap.size + 2) (W0.heap.size + 1) A W (W1.setCell ⟨w.heap.size + 1, 0, none⟩ (.slice D2 (r1.length - x2.toNat) c2)) ∧
        Scat w w.heap.size base n (some g) (.slice (some ⟨g, 0, none⟩) n vc) (wr m1 x1.toNat (r1.take x2.toNat)) (r1.drop x2.toNat) (W1.setCell ⟨w.heap.size + 1, 0, none⟩ (.slice D2 (r1.length - x2.toNat) c2)) := by
      intro D2 c2 hm hc2 hcm hD2
      obtain ⟨far, ⟨so, st, su, sz⟩, kp, row, bx⟩ := HFAR.out
      have hset : ∀ k, k ≠ w.heap.size + 1 → (W1.setCell ⟨w.heap.size + 1, 0, none⟩ (.slice D2 (r1.length - x2.toNat) c2)).heap[k]? = W1.heap[k]? := fun k hk => Below.heap_setCell W1 ⟨w.heap.size + 1, 0, none⟩ _ k hk
      have hall : ∀ k, k ≠ w.heap.size + 1 → k ≠ g → (W1.setCell ⟨w.heap.size + 1, 0, none⟩ (.slice D2 (r1.length - x2.toNat) c2)).heap[k]? = W.heap[k]? := fun k h1 h2 => (hset k h1).trans (far k h2)
      refine ⟨kp.trans (KeepsOthers.setCell _ _ _), ⟨?_, hall _ (by omega) (by omega), hall _ (by omega) (by omega), hall _ (by omega) (by omega), fun ad' e => hall _ (by have := (HA.out ad' e).1; omega) (fun e' => (HA.out ad' e).2 (by rw [e']))⟩, ?_, ?_, ?_, D2, c2, ?_, ?_, ?_, hcm, hD2⟩
      · show _ ≤ (W1.setCell _ _).heap.size; rw [World.size_setCell, sz]; exact Nat.le_refl _
      · exact grownBy_trans_keep HI.out.1 so st su (by rw [World.size_setCell, sz]; exact Nat.le_refl _) (fun k hk hne => hall k (by omega) (fun e => hne (by rw [e])))
      · exact (hall _ (by omega) (by omega)).trans HI.out.2.1
      · exact .inr ⟨rfl, own_move row (fun k hk => hset k (by simp [Value.ownBlock] at hk; omega))⟩
      · rw [List.length_drop]; exact bx.set _
      · refine ⟨fun j u hj => ?_, hm.one⟩
        obtain ⟨ad', e, hlt, hc⟩ := hm.cell j u hj
        refine ⟨ad', e, by simpa [World.setCell] using hlt, ?_⟩
        rw [World.cell?_of_block (w := W1) (show _ = W1.heap[(ad'.add j).block]? by rw [add_block]; exact hset _ (by have := (hD2 ad' e).1; omega))]
        exact hc
      · rw [List.length_drop]; exact hc2
    have FIN := Lib.hid fin
    clear fin
    by_cases hcc : c' = x2.toNat
    · go_wp2
      obtain ⟨f1, f2, f3⟩ := FIN.out (some ad) 0 (mem_nil (List.drop_eq_nil_of_le (by omega))) (by omega) (by omega) (fun ad' e => by cases e; exact HI.out.2.2.2.2.2 ad rfl)
      exact ⟨f1, f2, by show Scat _ _ _ _ _ _ (scat (ms, ds) (pre ++ [(x1, x2)])).1 (scat (ms, ds) (pre ++ [(x1, x2)])).2 _; rw [HSC.out]; exact f3⟩
    · go_wp2
      obtain ⟨f1, f2, f3⟩ := FIN.out (some (ad.add x2.toNat)) (c' - x2.toNat) (mem_drop hmem1 x2.toNat) (by omega) (by omega) (fun ad' e => by cases e; rw [add_block]; exact HI.out.2.2.2.2.2 ad rfl)
      exact ⟨f1, f2, by show Scat _ _ _ _ _ _ (scat (ms, ds) (pre ++ [(x1, x2)])).1 (scat (ms, ds) (pre ++ [(x1, x2)])).2 _; rw [HSC.out]; exact f3⟩
  case done =>
    rintro D1 W hD1 h hK
    gi_wp2
    refine ⟨by simp, .inl ⟨_, _, rfl, run_takeDeferred hK, ?_⟩⟩
    refine ⟨_, results_none rfl _ _ _, rfl, h.mem.move (fun k hk => World.putObj_heap_other (by have := HV.out k hk; omega)), grownBy_trans_keep h.grown rfl rfl rfl (by simp [World.putObj]) (fun k hk _ => World.putObj_heap_other (by omega))⟩
  case stop =>
    intro D c pre W hD hpre h
    exact h.elim
end Go.Proofs.Ytbojagkalbfenaa
namespace Go.Proofs.Ytbojagkalbfenaa
set_option linter.unusedVariables false
set_option linter.unusedSimpArgs false
open Go.RowKit PIovGather Go.Proofs.YtbojagkalbfenaaW.PrintWords Go.Proofs.YtbojagkalbfenaaW.PrintMore
attribute [local go_sem] ints_get ints_size ints_getElem min2_int min_two

/-- The number of bytes that Scatter writes; its error; the memory behind it. -/
def sN (l : List S44) (off : Int) (dl : Nat) : Int := if sumL (prs l) - off < (dl : Int) then sumL (prs l) - off else (dl : Int)
def scode (nm dl : Nat) (l : List S44) (off : Int) : Int := if wth (prs l) off 0 = 0 then (if insideB nm (slicedL (prs l) off (sN l off dl)) = true then 0 else 11) else wth (prs l) off 0
def snum (nm dl : Nat) (l : List S44) (off : Int) : Int := if scode nm dl l off = 0 then sN l off dl else 0
def smem (ms ds : List Value) (l : List S44) (off : Int) : List Value := if scode ms.length ds.length l off = 0 then (scat (ms, ds.take (sN l off ds.length).toNat) (slicedL (prs l) off (sN l off ds.length))).1 else ms
theorem mem_take {W : World} {M : Option Addr} {ds : List Value} (h : Mem W M ds) (k : Nat) : Mem W M (ds.take k) :=
  ⟨fun j u hj => h.cell j u (by
    rw [List.getElem?_take] at hj
    split at hj
    · exact hj
    · cases hj), fun u hu => h.one u (List.mem_of_mem_take hu)⟩
theorem grownBy_below {w w1 w2 : World} {row : Option Nat} (hb : Below w.heap.size w w1) (hg : w1.grownBy w2 row) : w.grownBy w2 row :=
  ⟨hg.os.trans hb.os, hg.tape.trans hb.tape, hg.output.trans hb.output, Nat.le_trans hb.size hg.size, fun k hk hne => (hg.block k (Nat.lt_of_lt_of_le hk hb.size) hne).trans (hb.block k hk)⟩
theorem grownBy_of_below {w w1 : World} (row : Option Nat) (hb : Below w.heap.size w w1) : w.grownBy w1 row := grown_of_below' hb row

set_option maxHeartbeats 1000000 in
set_option maxRecDepth 100000 in
theorem scatterF (A : Option Addr) (cap : Nat) (l : List S44) (off : Int) (V : Option Addr) (vc base n : Nat) (row : Option Nat) (ms : List Value) (D : Option Addr) (dcap : Nat) (ds : List Value) (P0 : Nat → Prop) (w : World)
    (hrow : MRow w base row (.slice V n vc) n ms) (hmem : Mem w D ds) (hdc : ds.length ≤ dcap) (hdm : dcap ≤ 9223372036854775807) (hD : ∀ ad, D = some ad → ad.block < w.heap.size ∧ some ad.block ≠ row)
    (hV : Kd.V k44 44 w w.heap.size P0 (.slice A l.length cap) l) (hA : ∀ ad, A = some ad → ad.block < w.heap.size ∧ some ad.block ≠ row) (hdl : ds.length ≤ 1099511627776) (hn : n ≤ 9223372036854775807) :
    Calls Try.prog 26 #[.slice V n vc, .slice A l.length cap, .int .i64 off, .slice D ds.length dcap] w fun e w' => e = .returned (.tuple #[.int .i64 (snum n ds.length l off), .int .i64 (scode n ds.length l off)]) ∧ MRow w' base row (.slice V n vc) n (smem ms ds l off) ∧ w.grownBy w' row := by
  have hml := hrow.length
  have hcap := (Kd.V_reads' hV).2.1
  have HV := Lib.hid hV
  have HL := Lib.hid (Kd.V_reads' hV).2.2
  have HP := Lib.hid (pairs_of_C (Kd.V_reads' hV).2.2)
  have HA := Lib.hid hA
  have HD := Lib.hid hD
  have HM := Lib.hid hmem
  have HR := Lib.hid hrow
  clear hV hA hD hmem hrow
  go_enter Try.func26, Try.ntmps26
  by_cases hw : wth (prs l) off 0 = 0
  · obtain ⟨h1, h2, h3, h4, h5, h6, h7⟩ := wth_zero hw
    have h2' : l.length ≤ 16 := by rwa [prs_length] at h2
    have hwr : IntKind.i64.wrap (sumL (prs l) - off) = sumL (prs l) - off := by rw [IntKind.wrap_i64]; omega
    have hN0 : 0 ≤ sN l off ds.length := by unfold sN; split <;> omega
    have hN1 : sN l off ds.length ≤ ds.length := by unfold sN; split <;> omega
    have hN : (if sumL (prs l) - off < (ds.length : Int) then sumL (prs l) - off else (ds.length : Int)) = sN l off ds.length := rfl
    have HN := Lib.hid hN
    have hN2 : sN l off ds.length ≤ sumL (prs l) - off := by unfold sN; split <;> omega
    clear hN
    by_cases hin : insideB n (slicedL (prs l) off (sN l off ds.length)) = true
    · have hc : scode n ds.length l off = 0 := by unfold scode; rw [if_pos hw, if_pos hin]
      have hs : snum n ds.length l off = sN l off ds.length := if_pos hc
      have hm : smem ms ds l off = (scat (ms, ds.take (sN l off ds.length).toNat) (slicedL (prs l) off (sN l off ds.length))).1 := by unfold smem; rw [hml, if_pos hc]
      rw [hc, hs, hm]
      generalize sN l off ds.length = NN at *
      have hlt : (ds.take NN.toNat).length = NN.toNat := by rw [List.length_take]; omega
      have hw3 : wth (prs l) off NN = 0 := by
        unfold wth at hw ⊢
        split at hw
        · rename_i hck
          rw [if_pos hck, if_neg (by omega)]
        · rename_i hck
          exact absurd hw hck
      have h41 : ∀ W, Below w.heap.size w W → Calls Try.prog 41 #[.slice V n vc, .slice A l.length cap, .int .i64 off, .slice D NN.toNat dcap] W fun e w' => e = .returned (.tuple #[]) ∧ MRow w' base row (.slice V n vc) n (scat (ms, ds.take NN.toNat) (slicedL (prs l) off NN)).1 ∧ W.grownBy w' row := fun W hb => by
        have := callsIn_wide.1 (scatter_in A cap (prs l) off V vc base n row ms D dcap (ds.take NN.toNat) W (HR.out.move (fun k hk => hb.block k (HR.out.lt k hk))) (mem_take (HM.out.below hb) _) (by omega) hdm (fun ad e => ⟨Nat.lt_of_lt_of_le (HD.out ad e).1 hb.size, (HD.out ad e).2⟩) (HP.out.below hb) (fun ad e => ⟨Nat.lt_of_lt_of_le (HA.out ad e).1 hb.size, (HA.out ad e).2⟩) h1 (by omega) (by omega) h2 (by rw [hlt, show ((NN.toNat : Nat) : Int) = NN by omega]; exact hin))
        rw [prs_length, hlt, show ((NN.toNat : Nat) : Int) = NN by omega] at this
        exact this
      have H41 := Lib.hid h41
      have HIN := Lib.hid hin
      have HOK := Lib.hid h1
      have hNc : NN ≤ (dcap : Int) := by omega
      clear h41 hin h1
      have HB := Lib.hid (Below.refl w.heap.size w)
      go_wp2_with (first
        | (go_at_call 33; refine (iov_within.calls 60 P0 A cap l off 0 0 _ (Kd.V_map (Kd.V_below HV.out HB.out) (fun _ h => h)) (by rw [within_f l off 0 (by omega), hw])).mono ?_; rintro e w1 ⟨rfl, hb1⟩; replace HB := Lib.hid (below_then' HB.out hb1); clear hb1)
        | (go_at_call 39; refine (iov_total.calls 60 A cap l _ _ (Kd.C_below HL.out HB.out) hcap (total_f HOK.out h2' (by omega))).mono ?_; rintro e w2 ⟨rfl, hb2⟩; replace HB := Lib.hid (below_then' HB.out hb2); clear hb2; have hN := HN.out)
        | (go_at_call 34; refine (inside_l V n vc A cap l off NN _ (HP.out.below HB.out) (fun ad e => Nat.lt_of_lt_of_le (HA.out ad e).1 HB.out.size) hw3 hn).mono ?_; rw [HIN.out]; rintro e w3 ⟨rfl, hb3⟩; replace HB := Lib.hid (below_then' HB.out hb3); clear hb3)
        | (go_at_call 41; refine (H41.out _ HB.out).mono ?_; rintro e w4 ⟨rfl, hr4, hg4⟩; have HG := Lib.hid (And.intro hr4 (grownBy_below HB.out hg4)); clear hr4 hg4))
      go_ret2
      exact ⟨rfl, HG.out.1, HG.out.2⟩
    · have hin' : insideB n (slicedL (prs l) off (sN l off ds.length)) = false := by simpa using hin
      have hc : scode n ds.length l off = 11 := by unfold scode; rw [if_pos hw, if_neg hin]
      have hs : snum n ds.length l off = 0 := by unfold snum; rw [hc]; rfl
      have hm : smem ms ds l off = ms := by unfold smem; rw [hml, hc]; rfl
      rw [hc, hs, hm]
      generalize sN l off ds.length = NN at *
      have hw3 : wth (prs l) off NN = 0 := by
        unfold wth at hw ⊢
        split at hw
        · rename_i hck
          rw [if_pos hck, if_neg (by omega)]
        · rename_i hck
          exact absurd hw hck
      have HIN := Lib.hid hin'
      have HOK := Lib.hid h1
      clear hin hin' h1
      have HB := Lib.hid (Below.refl w.heap.size w)
      go_wp2_with (first
        | (go_at_call 33; refine (iov_within.calls 60 P0 A cap l off 0 0 _ (Kd.V_map (Kd.V_below HV.out HB.out) (fun _ h => h)) (by rw [within_f l off 0 (by omega), hw])).mono ?_; rintro e w1 ⟨rfl, hb1⟩; replace HB := Lib.hid (below_then' HB.out hb1); clear hb1)
        | (go_at_call 39; refine (iov_total.calls 60 A cap l _ _ (Kd.C_below HL.out HB.out) hcap (total_f HOK.out h2' (by omega))).mono ?_; rintro e w2 ⟨rfl, hb2⟩; replace HB := Lib.hid (below_then' HB.out hb2); clear hb2; have hN := HN.out)
        | (go_at_call 34; refine (inside_l V n vc A cap l off NN _ (HP.out.below HB.out) (fun ad e => Nat.lt_of_lt_of_le (HA.out ad e).1 HB.out.size) hw3 hn).mono ?_; rw [HIN.out]; rintro e w3 ⟨rfl, hb3⟩; replace HB := Lib.hid (below_then' HB.out hb3); clear hb3))
      go_ret2
      exact ⟨rfl, HR.out.move (fun k hk => HB.out.block k (HR.out.lt k hk)), grownBy_of_below row HB.out⟩
  · have hc : scode n ds.length l off = wth (prs l) off 0 := by unfold scode; rw [if_neg hw]
    have hs : snum n ds.length l off = 0 := by unfold snum; rw [if_neg (by rw [hc]; exact hw)]
    have hm : smem ms ds l off = ms := by unfold smem; rw [hml, if_neg (by rw [hc]; exact hw)]
    rw [hc, hs, hm]
    go_wp2_with (first
      | (go_at_call 33; refine (iov_within.calls 60 P0 A cap l off 0 _ _ HV.out (within_f l off 0 (by omega))).mono ?_; rintro e w1 ⟨rfl, hb1⟩))
    go_ret2
    exact ⟨rfl, HR.out.move (fun k hk => hb1.block k (HR.out.lt k hk)), grownBy_of_below row hb1⟩
end Go.Proofs.Ytbojagkalbfenaa
namespace Go.Proofs.Ytbojagkalbfenaa
set_option linter.unusedSimpArgs false
open Go.RowKit PIovGather Go.Proofs.YtbojagkalbfenaaW.PrintWords

theorem equal_l0 (a b : List Int) (hl : a.length = b.length) (hb : a.length ≤ 1000000) : ∀ (c k i : Nat), i + c = a.length → c < k → slices_Equal_byte_byte.l0 k a b a.length i = some (decide (a.drop i = b.drop i))
  | 0, k + 1, i, hi, _ => by
    simp only [slices_Equal_byte_byte.l0, show ¬ ((i : Int) < (a.length : Int)) by omega, if_false]
    rw [List.drop_eq_nil_of_le (by omega), List.drop_eq_nil_of_le (by omega)]
    simp
  | c + 1, k + 1, i, hi, hk => by
    have ih := equal_l0 a b hl hb c k (i + 1) (by omega) (by omega)
    rw [show ((i + 1 : Nat) : Int) = (i : Int) + 1 by omega] at ih
    simp only [slices_Equal_byte_byte.l0, show (i : Int) < (a.length : Int) by omega, show (i : Int) < (b.length : Int) by omega, show (0 : Int) ≤ (i : Int) by omega, if_true]
    rw [w64 (x := (i : Int) + 1) (by omega) (by omega), ih, rd_cons (l := a) (i := i) (by omega), rd_cons (l := b) (i := i) (by omega)]
    by_cases h : rd a i = rd b i
    · simp [h]
    · simp [h]
theorem equal_f (a b : List Int) (hb : a.length ≤ 1000000) {k : Nat} (hk : 1000002 ≤ k) : slices_Equal_byte_byte.f k a b = some (decide (a = b)) := by
  unfold slices_Equal_byte_byte.f
  by_cases h : a.length = b.length
  · rw [if_pos (by omega)]
    have := equal_l0 a b h hb a.length k 0 (by omega) (by omega)
    simpa using this
  · rw [if_neg (by omega)]
    have : a ≠ b := fun e => h (by rw [e])
    simp [this]
end Go.Proofs.Ytbojagkalbfenaa
namespace Go.Proofs.Ytbojagkalbfenaa
open Go.RowKit PIovGather Go.Proofs.YtbojagkalbfenaaW.PrintWords
attribute [local go_sem] ints_get ints_size ints_getElem

def l3 : List S44 := [⟨4, 2⟩, ⟨0, 0⟩, ⟨1, 3⟩]
theorem V3 {W : World} {g base : Nat} {t : TypeId} {fr : Nat × Nat} (h : W.heap[g]? = some (.cells #[.int .i64 4, .int .i64 2, .int .i64 0, .int .i64 0, .int .i64 1, .int .i64 3] t fr)) :
    Kd.V k44 44 W base (fun k => k = g) (.slice (some ⟨g, 0, none⟩) l3.length 3) l3 := by
  refine Kd.V_mk (by decide) (fun W' hW' => ⟨rfl, by decide, fun _ => ⟨_, rfl, fun j p hj => ?_⟩⟩)
  have hg := (hW' g rfl (Array.getElem?_eq_some_iff.1 h).1).trans h
  have hc : ∀ i, W'.cell? ⟨g, i, none⟩ = (#[.int .i64 4, .int .i64 2, .int .i64 0, .int .i64 0, .int .i64 1, .int .i64 3] : Array Value)[i]? := fun i => cell_of_row _ _ _ _ _ _ hg
  refine ⟨[.int .i64 p.f0, .int .i64 p.f1], rfl, k44_mk _ _, fun i u hi => ?_⟩
  rw [add_at, hc]
  match j, hj with
  | 0, hj => cases hj; match i, hi with
    | 0, hi => exact hi
    | 1, hi => exact hi
    | i + 2, hi => simp at hi
  | 1, hj => cases hj; match i, hi with
    | 0, hi => exact hi
    | 1, hi => exact hi
    | i + 2, hi => simp at hi
  | 2, hj => cases hj; match i, hi with
    | 0, hi => exact hi
    | 1, hi => exact hi
    | i + 2, hi => simp at hi
  | j + 3, hj => simp [l3] at hj

theorem wth3 : wth (prs l3) 0 5 = 0 := by decide
theorem gcode3 : gcode 8 (prs l3) 0 5 = 0 := by decide
theorem length3 (w : World) (base : Nat) (h : Kd.V k44 44 w w.heap.size (fun k => k = base) (.slice (some ⟨base, 0, none⟩) l3.length 3) l3) : Calls Try.prog 18 #[.slice (some ⟨base, 0, none⟩) 3 3] w fun e w' => e = .returned (.tuple #[.int .i64 5, .int .i64 0]) ∧ Below w.heap.size w w' := by
  refine iov_Length.calls 60 _ _ 3 l3 5 0 w h ?_
  rw [iov_Length.f, check_f l3 (by omega), Option.bind_some, if_pos (by decide), total_f (by rw [← okB_iff]; decide) (by decide) (by omega)]
  rfl
def abc : List Value := [.int .u8 97, .int .u8 98, .int .u8 99, .int .u8 100, .int .u8 101, .int .u8 102, .int .u8 103, .int .u8 104]
theorem mem_abc {W : World} {g : Nat} {t : TypeId} {fr : Nat × Nat} (h : W.heap[g]? = some (.cells #[.int .u8 97, .int .u8 98, .int .u8 99, .int .u8 100, .int .u8 101, .int .u8 102, .int .u8 103, .int .u8 104] t fr)) : Mem W (some ⟨g, 0, none⟩) abc :=
  ⟨fun j u hj => ⟨_, rfl, (Array.getElem?_eq_some_iff.1 h).1, by
    rw [add_at, cell_of_row _ _ _ _ _ _ h]
    simpa [abc] using hj⟩, by decide⟩
theorem gres3 : gres abc (prs l3) 0 5 = [.int .u8 101, .int .u8 102, .int .u8 98, .int .u8 99, .int .u8 100] := by
  unfold gres
  rw [if_pos (by exact gcode3)]
  rfl
theorem gather3 (w : World) (g b : Nat) (hm : Mem w (some ⟨g, 0, none⟩) abc) (h : Kd.V k44 44 w w.heap.size (fun k => k = b) (.slice (some ⟨b, 0, none⟩) l3.length 3) l3) (hb : b < w.heap.size) :
    Calls Try.prog 12 #[.slice (some ⟨g, 0, none⟩) 8 8, .slice (some ⟨b, 0, none⟩) 3 3, .int .i64 0, .int .i64 5] w fun e w' => ∃ v, e = .returned (.tuple #[v, .int .i64 0]) ∧ w'.ownsRow w.heap.size 5 1 v 5 [.int .u8 101, .int .u8 102, .int .u8 98, .int .u8 99, .int .u8 100] ∧ Below w.heap.size w w' := by
  have := gatherF (some ⟨g, 0, none⟩) abc 8 (some ⟨b, 0, none⟩) 3 l3 0 5 _ w hm h (by rintro ad ⟨⟩; exact hb) (by decide) (by decide)
  rw [gres3] at this
  refine this.mono ?_
  rintro e w' ⟨v, rfl, h2, h3⟩
  exact ⟨v, by rw [show gcode abc.length (prs l3) 0 5 = 0 from gcode3], h2, h3⟩
end Go.Proofs.Ytbojagkalbfenaa
namespace Go.Proofs.Ytbojagkalbfenaa
open Go.RowKit PIovGather Go.Proofs.YtbojagkalbfenaaW.PrintWords
attribute [local go_sem] ints_get ints_size ints_getElem
theorem heap_kept {w w1 : World} {g : Nat} {o : Obj} (h : w.heap[g]? = some o) (hb : Below w.heap.size w w1) : w1.heap[g]? = some o :=
  (hb.block g (Array.getElem?_eq_some_iff.1 h).1).trans h

theorem str5 : strOfNums [101, 102, 98, 99, 100] = ⟨#[101, 102, 98, 99, 100]⟩ := by rfl
theorem conv_row {W : World} {base g cap : Nat} (h : W.ownsRow base 5 1 (.slice (some ⟨g, 0, none⟩) 5 cap) 5 [.int .u8 101, .int .u8 102, .int .u8 98, .int .u8 99, .int .u8 100]) :
    (convert 22 9 (.slice (some ⟨g, 0, none⟩) 5 cap)).run Try.prog W = .ok (.string ⟨#[101, 102, 98, 99, 100]⟩) W := by
  rw [← str5]
  refine run_convert_bytes_arg (P := Try.prog) W 22 5 Try.underlying22 Try.underlying5 g 0 5 cap [101, 102, 98, 99, 100] rfl (fun i hi => ?_) 9 Try.underlying9
  have := h.cells (g := g) rfl i (.int .u8 (([101, 102, 98, 99, 100] : List Int).getD i 0)) (by match i, hi with | 0, _ => rfl | 1, _ => rfl | 2, _ => rfl | 3, _ => rfl | 4, _ => rfl)
  rwa [add_at] at this
set_option maxRecDepth 100000 in
theorem awake_calls (w : World) : Calls Try.prog 11 #[] w fun e w' => e = .returned (.bool true) ∧ Below w.heap.size w w' := by
  go_enter Try.func11, Try.ntmps11
  have h0 := heap_alloc_new w (.cells #[.int .i64 4, .int .i64 2, .int .i64 0, .int .i64 0, .int .i64 1, .int .i64 3] 44)
  have hs : w.heap.size < (w.alloc (.cells #[.int .i64 4, .int .i64 2, .int .i64 0, .int .i64 0, .int .i64 1, .int .i64 3] 44)).heap.size := by simp
  have HB := Lib.hid ((Below.refl w.heap.size w).alloc (Nat.le_refl _) (.cells #[.int .i64 4, .int .i64 2, .int .i64 0, .int .i64 0, .int .i64 1, .int .i64 3] 44))
  have HF := Lib.hid h0
  clear h0
  go_wp2_with (first
    | (go_at_call 18; refine (length3 _ _ (V3 HF.out)).mono ?_; rintro e w1 ⟨rfl, hb1⟩; have HF1 := Lib.hid (heap_kept HF.out hb1); replace HB := Lib.hid (below_then' HB.out hb1); have hs1 := Nat.lt_of_lt_of_le hs hb1.size; have hcv := Lib.run_convert_bytes_const (P := Try.prog) w1 22 5 #[.int .u8 97, .int .u8 98, .int .u8 99, .int .u8 100, .int .u8 101, .int .u8 102, .int .u8 103, .int .u8 104] 8 8 Try.underlying22 Try.underlying5; clear hb1)
    | (go_at_call 12; refine (gather3 _ _ _ (mem_abc (heap_alloc_new _ _)) (V3 (by rw [Below.heap_alloc _ _ _ (by omega)]; exact HF1.out)) (by simp; omega)).mono ?_; rintro e w2 ⟨v, rfl, ho, hb2⟩; obtain ⟨g', cap', rfl⟩ := ownsRow_pos ho (by omega); have hcs := conv_row ho; replace HB := Lib.hid (below_then' (HB.out.alloc HB.out.size _) hb2); clear hb2))
  go_ret
  exact ⟨rfl, HB.out⟩
end Go.Proofs.Ytbojagkalbfenaa
namespace Go.Proofs.Ytbojagkalbfenaa
set_option linter.unusedSimpArgs false
open Go.RowKit PIovGather Go.Proofs.YtbojagkalbfenaaW.PrintWords

/-- small's answer, for one memory. -/
def smallB (nl nm : Nat) : Bool := decide (wrap64 ((nl : Int) + wrap64 ((nm : Int) / 100)) ≤ 60)
theorem small_f (l : List S44) (mem : List Int) {k : Nat} (hk : 3 ≤ k) : orpimentlaw09_small.f k l [mem] = some (smallB l.length mem.length) := by
  obtain ⟨m, rfl⟩ : ∃ m, k = m + 1 + 1 := ⟨k - 2, by omega⟩
  have hw1 : wrap64 1 = 1 := by unfold wrap64; omega
  simp [orpimentlaw09_small.f, orpimentlaw09_small.l0, hw1, rd_L1, smallB]
/-- A small input: the list is not valid (too long), or both are short. -/
theorem small_cases {nl nm : Nat} (h : smallB nl nm = true) (h1 : nl ≤ 9223372036854775807) (h2 : nm ≤ 9223372036854775807) : 16 < nl ∨ nm ≤ 6100 := by
  simp only [smallB, decide_eq_true_eq] at h
  unfold wrap64 at h
  omega
end Go.Proofs.Ytbojagkalbfenaa
namespace Go.Proofs.Ytbojagkalbfenaa
open Go.RowKit PIovGather Go.Proofs.YtbojagkalbfenaaW.PrintWords

def byts (l : List Int) : List Value := l.map (Value.int .u8)
theorem mem_of_C {w : World} {M : Option Addr} {ms : List Int} (h : Kd.C (Kd.int .u8) w M ms.length ms) : Mem w M (byts ms) := by
  refine ⟨fun j u hj => ?_, fun u hu => ?_⟩
  · obtain ⟨p, hp, rfl⟩ : ∃ p, ms[j]? = some p ∧ Value.int .u8 p = u := by simpa [byts] using hj
    have hlt := (List.getElem?_eq_some_iff.1 hp).1
    obtain ⟨ad, e, hc⟩ := h.2.2 (by omega)
    obtain ⟨c, hl, hK, hcell⟩ := hc j p hp
    obtain rfl : c = [Value.int .u8 p] := hK
    have hq := hcell 0 _ rfl
    have hq' : w.cell? (ad.add j) = some (.int .u8 p) := by simpa [Kd.int, Kd.scalar] using hq
    have hb := World.block_lt_of_cell? _ _ hq'
    exact ⟨ad, e, by rwa [add_block] at hb, hq'⟩
  · obtain ⟨p, _, rfl⟩ := List.mem_map.1 hu
    rfl
theorem C_of_own {w : World} {base : Nat} {v : Value} {ms : List Int} (h : w.ownsRow base 5 1 v ms.length (byts ms)) : ∃ A c, v = .slice A ms.length c ∧ ms.length ≤ c ∧ Kd.C (Kd.int .u8) w A ms.length ms := by
  rcases h.2 with ⟨rfl, h0⟩ | ⟨g, cap, cur, rfl, _, _, hc, hm, _⟩
  · exact ⟨none, 0, by rw [h0], by omega, rfl, by omega, fun hp => by omega⟩
  · refine ⟨_, cap, rfl, hc, rfl, by simp only [maxLen] at hm; omega, fun _ => ⟨_, rfl, fun j p hp => ⟨[.int .u8 p], rfl, rfl, fun i u hi => ?_⟩⟩⟩
    have hlt := (List.getElem?_eq_some_iff.1 hp).1
    match i, hi with
    | 0, hi =>
      cases hi
      have := h.cells (g := g) rfl j (.int .u8 p) (by simp [byts, hp])
      simpa [Kd.int, Kd.scalar] using this
    | i + 1, hi => simp at hi
end Go.Proofs.Ytbojagkalbfenaa
namespace Go.Proofs.Ytbojagkalbfenaa
set_option linter.unusedVariables false
set_option linter.unusedSimpArgs false
open Go.RowKit PIovGather Go.Proofs.YtbojagkalbfenaaW.PrintWords
attribute [local go_sem] ints_get ints_size ints_getElem

theorem results_tmp3 {fn : Func} {p q r : Tmp} (h : fn.results = #[.tmp p, .tmp q, .tmp r]) (tmps : Array Value) (P : Program) (w : World) : (results fn tmps).run P w = .ok (.tuple #[tmps.getD p undef, tmps.getD q undef, tmps.getD r undef]) w := by
  simp [results, h]
theorem setL_snoc : ∀ (ss : List Int) (ms ds : List Value) (k : Nat) (hk : k < ss.length) (hd : k < ds.length), setL ms (ss.take (k + 1)) ds = (setL ms (ss.take k) ds).set (ss[k]'hk).toNat (ds[k]'hd)
  | a :: ss, ms, d :: ds, 0, _, _ => by simp [setL]
  | a :: ss, ms, d :: ds, k + 1, hk, hd => by
    simp only [List.take_succ_cons, setL, List.getElem_cons_succ]
    exact setL_snoc ss _ ds k (by simpa using hk) (by simpa using hd)
theorem addrs_len : ∀ {l : List (Int × Int)}, (∀ p ∈ l, 0 ≤ p.2) → ((addrs l).length : Int) = sumL l
  | [], _ => by simp [addrs, sumL]
  | p :: r, h => by
    have ih := addrs_len (l := r) (fun q hq => h q (List.mem_cons_of_mem _ hq))
    have hp := h p List.mem_cons_self
    simp only [addrs, List.flatMap_cons, List.length_append, seg_length, sumL] at ih ⊢
    omega
theorem addrs_all {n : Nat} {xs : List (Int × Int)} (h : ∀ x ∈ xs, 0 ≤ x.1 ∧ 1 ≤ x.2) (hin : insideB n xs = true) : ∀ a ∈ addrs xs, 0 ≤ a ∧ a < n := by
  have h1 := addrs_inside n xs (fun x hx => (h x hx).2)
  rw [hin, List.all_eq_true] at h1
  intro a ha
  refine ⟨?_, by simpa using h1 a ha⟩
  obtain ⟨x, hx, hy⟩ := List.mem_flatMap.1 ha
  have := seg_mem _ _ a hy
  have := (h x hx).1
  omega
theorem scode_def (nm dl : Nat) (l : List S44) (off : Int) : scode nm dl l off = if chk (prs l) = 0 then (if off < 0 ∨ sumL (prs l) < off then 34 else if insideB nm (slicedL (prs l) off (sN l off dl)) = true then 0 else 11) else chk (prs l) := by
  unfold scode wth
  by_cases h : chk (prs l) = 0
  · rw [if_pos h, if_pos h]
    by_cases g : off < 0 ∨ sumL (prs l) < off
    · rw [if_pos (show off < 0 ∨ (0 : Int) < 0 ∨ sumL (prs l) < off ∨ sumL (prs l) - off < 0 by omega), if_pos g, if_neg (by decide)]
    · rw [if_neg (show ¬ (off < 0 ∨ (0 : Int) < 0 ∨ sumL (prs l) < off ∨ sumL (prs l) - off < 0) by omega), if_neg g, if_pos rfl]
  · rw [if_neg h, if_neg h, if_neg h]

/-- append([]byte{}, bytes...): whatever the bytes' slice is. -/
theorem wpList_append_bytes {ops : Array Oper} {rest : List Oper} {o : Oper} {a : Act} {W : World} {Q : Exit → Act → World → Prop} (hgd : o.guard = none) (s x : Operand)
    (ho : o.op = .call { callee := .builtin .append, args := #[s, x], argTypes := #[22, 22] }) (g : Nat) (hs : a.eval s = .slice (some ⟨g, 0, none⟩) 0 0) (M : Option Addr) (mc : Nat) (ms : List Value) (n : Nat) (hx : a.eval x = .slice M n mc) (hn : n = ms.length)
    (hrow : W.ownsRow g 5 1 (.slice (some ⟨g, 0, none⟩) 0 0) 0 []) (hm : Mem W M ms) (hl : ms.length ≤ 1099511627776) (hg : g ≤ W.heap.size)
    (h : ∀ v' w', w'.ownsRow g 5 1 v' ms.length ms → Below g W w' → wpList Try.prog ops Q rest (a.put o.dst v') w') : wpList Try.prog ops Q (o :: rest) a W := by
  subst hn
  obtain ⟨i0, hi0, hz0, hz1, hz2⟩ := info_parts (P := Try.prog) (e := 5) (z := .int .u8 0) (size := 1) (bytes := 1) (by kernel_rfl)
  by_cases h0 : ms = []
  · subst h0
    refine wpList_plain hgd fun K hK => ?_
    have := hK _ _ (h _ _ hrow (Below.refl _ _))
    unfold Oper.wp
    cases M <;> simp [execOp, ho, resolve, invoke, builtin, hs, hx, Builtin.append, run_underlying Try.underlying22, Result.andThen] <;> exact this
  · obtain ⟨ad, rfl⟩ : ∃ ad, M = some ad := by
      obtain ⟨ad, e, _⟩ := hm.cell 0 (ms[0]'(List.length_pos_iff.2 h0)) (List.getElem?_eq_getElem _)
      exact ⟨ad, e⟩
    refine wpList_append_own _ hgd s x 22 ho g 5 i0 (.int .u8 0) 1 1 Try.underlying22 hi0 hz0 hz1 hz2 rfl (by omega) _ 0 [] hs hrow ad ms.length mc ms hx (by omega) (fun j u hj => by obtain ⟨ad', e, hlt, hc⟩ := hm.cell j u hj; cases e; exact hc) hm.one (by simp only [maxLen]; omega) (by omega) hg ?_
    intro v' w2 hown hgrow _
    exact h v' w2 (by simpa using hown) ((Below.refl _ _).grown hgrow hg (fun k hk => by cases hk; exact Nat.le_refl _))
/-- inside of addresses. -/
theorem inside_at {W : World} {M A : Option Addr} {mc n c : Nat} {ms ss : List Int} {r : Bool} (hM : Kd.C (Kd.int .u8) W M ms.length ms) (hmc : ms.length ≤ mc) (hA : Kd.C (Kd.int .i64) W A n ss) (hc : n ≤ c) (h : orpimentref09_inside.f 70000 ms ss = some r) :
    Calls Try.prog 37 #[.slice M ms.length mc, .slice A n c] W fun e w' => e = .returned (.bool r) ∧ Below W.heap.size W w' := by
  have hn := hA.1
  subst hn
  exact (orpimentref09_inside.calls 70000 M mc ms A c ss r W hM hmc hA hc h).mono (by rintro e w' ⟨rfl, hd⟩; exact ⟨rfl, hd.below⟩)

theorem drop64 {W : World} {A : Option Addr} {aa : List Int} {o c : Nat} (h : Kd.C (Kd.int .i64) W A aa.length aa) (ho : o ≤ aa.length) (hc : aa.length ≤ c) : Kd.C (Kd.int .i64) W (if c = o then A else A.map (fun x => x.add o)) (aa.drop o).length (aa.drop o) := by
  have := Kd.C_drop h ho hc
  rwa [show o * (Kd.int .i64).sz = o from Nat.mul_one o] at this
theorem cv64 {W : World} {A B : Option Addr} {n : Nat} {xs : List Int} (h : Kd.C (Kd.int .i64) W B n xs) (e : A = B) : Kd.C (Kd.int .i64) W A n xs := e ▸ h
theorem ats_of {W : World} {A : Option Addr} {aa ss : List Int} {o k n : Nat} (h : Kd.C (Kd.int .i64) W A (aa.drop o).length (aa.drop o)) (hx : ss = (aa.drop o).take k) (hn : n = min k (aa.length - o)) : Kd.C (Kd.int .i64) W A n ss := by
  have h1 := Kd.C_take (m := min k (aa.length - o)) h (by rw [List.length_drop]; omega)
  have e : (aa.drop o).take (min k (aa.length - o)) = ss := by
    rw [hx]
    rcases Nat.le_total k (aa.length - o) with hk | hk
    · rw [Nat.min_eq_left hk]
    · rw [Nat.min_eq_right hk, List.take_of_length_le (by rw [List.length_drop]; omega), List.take_of_length_le (by rw [List.length_drop]; omega)]
  rw [e] at h1
  rwa [show ss.length = n by rw [hn, hx, List.length_take, List.length_drop]] at h1
theorem own_set' {w : World} {base : Nat} {e : TypeId} {size n g cap : Nat} {xs : List Value} (h : w.ownsRow base e size (.slice (some ⟨g, 0, none⟩) n cap) n xs) (j : Nat) (hj : j < n * size) (u : Value) :
    (w.setCell ⟨g, j, none⟩ u).ownsRow base e size (.slice (some ⟨g, 0, none⟩) n cap) n (xs.set j u) := by
  obtain ⟨h1, h2⟩ := h
  refine ⟨by rw [List.length_set]; exact h1, ?_⟩
  rcases h2 with ⟨h2, _⟩ | ⟨g', cap', cur, he, hb, hh, hn, hm, hs, ht⟩
  · cases h2
  · injection he with ha _ hc
    injection ha with ha
    injection ha with hg
    subst hg; subst hc
    refine .inr ⟨g, cap, cur.setIfInBounds j u, rfl, hb, blk_set hh j u, hn, hm, by rw [Array.size_setIfInBounds]; exact hs, ?_⟩
    rw [Array.toList_setIfInBounds, List.take_set, ht]
/-- inside of addresses, the addresses kept. -/
theorem inside_at2 {W : World} {M A : Option Addr} {mc n c : Nat} {ms ss : List Int} {r : Bool} (hM : Kd.C (Kd.int .u8) W M ms.length ms) (hmc : ms.length ≤ mc) (hA : Kd.C (Kd.int .i64) W A n ss) (hc : n ≤ c) (h : orpimentref09_inside.f 70000 ms ss = some r) :
    Calls Try.prog 37 #[.slice M ms.length mc, .slice A n c] W fun e w' => e = .returned (.bool r) ∧ Below W.heap.size W w' ∧ Kd.C (Kd.int .i64) w' A n ss := by
  exact (inside_at hM hmc hA hc h).mono (by rintro e w' ⟨rfl, hd⟩; exact ⟨rfl, hd, Kd.C_below hA hd⟩)
theorem ownsRow_slice {W : World} {base : Nat} {e : TypeId} {size n : Nat} {v : Value} {xs : List Value} (h : W.ownsRow base e size v n xs) : ∃ A c, v = .slice A n c := by
  rcases h.2 with ⟨rfl, rfl⟩ | ⟨g, c, _, rfl, _⟩
  · exact ⟨_, _, rfl⟩
  · exact ⟨_, _, rfl⟩
theorem setL_at {ms ds : List Value} {ss : List Int} {k : Nat} (hk : k < ss.length) (hd : k < ds.length) : setL ms (ss.take (k + 1)) ds = (setL ms (ss.take k) ds).set (rd ss k).toNat (ds[k]'hd) := by
  rw [setL_snoc ss ms ds k hk hd]
  congr 2
  simp [rd, rdOf, List.getD_eq_getElem?_getD, List.getElem?_eq_getElem hk]
theorem setL_cut : ∀ (ss : List Int) (ms ds : List Value) (k : Nat), ss.length ≤ k → setL ms ss (ds.take k) = setL ms ss ds
  | [], ms, ds, k, _ => by simp [setL]
  | a :: ss, ms, [], k, _ => by simp
  | a :: ss, ms, d :: ds, 0, h => by simp at h
  | a :: ss, ms, d :: ds, k + 1, h => by
    simp only [List.take_succ_cons, setL]
    exact setL_cut ss _ ds k (by simpa using h)
/-- What the reference's Scattered answers. -/
def SPost (ms ds : List Int) (l : List S44) (off : Int) (w : World) (e : Ending) (w' : World) : Prop :=
  ∃ v, e = .returned (.tuple #[v, .int .i64 (snum ms.length ds.length l off), .int .i64 (scode ms.length ds.length l off)]) ∧
      (scode ms.length ds.length l off = 0 → w'.ownsRow w.heap.size 5 1 v ms.length (smem (byts ms) (byts ds) l off)) ∧ Below w.heap.size w w'
theorem SPost.bad {ms ds : List Int} {l : List S44} {off : Int} {w w' : World} {e : Ending} {c : Int} (v : Value) (hc : scode ms.length ds.length l off = c) (h0 : c ≠ 0) (he : e = .returned (.tuple #[v, .int .i64 0, .int .i64 c])) (hb : Below w.heap.size w w') : SPost ms ds l off w e w' := by
  have hs : snum ms.length ds.length l off = 0 := by unfold snum; rw [if_neg (by rw [hc]; exact h0)]
  exact ⟨v, by rw [hs, hc]; exact he, fun h => absurd (hc ▸ h) h0, hb⟩
theorem SPost.good {ms ds : List Int} {l : List S44} {off : Int} {w w' : World} {e : Ending} (v : Value) (hc : scode ms.length ds.length l off = 0) (he : e = .returned (.tuple #[v, .int .i64 (sN l off ds.length), .int .i64 0])) (ho : w'.ownsRow w.heap.size 5 1 v ms.length (smem (byts ms) (byts ds) l off)) (hb : Below w.heap.size w w') : SPost ms ds l off w e w' := by
  have hs : snum ms.length ds.length l off = sN l off ds.length := if_pos hc
  exact ⟨v, by rw [hs, hc]; exact he, fun _ => ho, hb⟩
set_option maxHeartbeats 2000000 in
set_option maxRecDepth 100000 in
theorem scattered_calls (M : Option Addr) (mc : Nat) (ms : List Int) (A : Option Addr) (cap : Nat) (l : List S44) (off : Int) (D : Option Addr) (dcap : Nat) (ds : List Int) (w : World)
    (hM : Kd.C (Kd.int .u8) w M ms.length ms) (hmc : ms.length ≤ mc) (hm6 : ms.length ≤ 1000000) (hL : Kd.C k44 w A l.length l) (hcap : l.length ≤ cap) (hD : Kd.C (Kd.int .u8) w D ds.length ds) (hdc : ds.length ≤ dcap) (hd6 : ds.length ≤ 1000000) :
    Calls Try.prog 27 #[.slice M ms.length mc, .slice A l.length cap, .int .i64 off, .slice D ds.length dcap] w fun e w' => SPost ms ds l off w e w' := by
  have HM := Lib.hid hM
  have HL := Lib.hid hL
  have HD := Lib.hid hD
  have HB := Lib.hid (Below.refl w.heap.size w)
  clear hM hL hD
  have hrl := rlen_f l (k := 60) (by omega)
  go_enter Try.func27, Try.ntmps27
  by_cases hck : chk (prs l) = 0
  · rw [if_pos hck, hck] at hrl
    obtain ⟨h1, h2, h3, h4⟩ := chk_zero hck
    by_cases ho : off < 0 ∨ sumL (prs l) < off
    · have hc : scode ms.length ds.length l off = 34 := by rw [scode_def, if_pos hck, if_pos ho]
      have HC := Lib.hid hc
      clear hc
      have HRL := Lib.hid hrl
      clear hrl h1
      rcases ho with ho | ho
      all_goals
        go_wp2_with (first
          | (go_at_call 19; refine (orpimentref09_Length.calls 60 A cap l _ _ _ (Kd.C_below HL.out HB.out) hcap HRL.out).mono ?_; rintro e w1 ⟨rfl, hd⟩; replace HB := Lib.hid (below_then' HB.out hd); clear hd))
      all_goals exact bodyPost_ret (results_tmp3 rfl _ _ _) rfl (SPost.bad _ HC.out (by decide) rfl HB.out)
    · have h0 : 0 ≤ off := by omega
      have hos : off ≤ sumL (prs l) := by omega
      have hN0 : 0 ≤ sN l off ds.length := by unfold sN; split <;> omega
      have hlen : ((addrs (prs l)).length : Int) = sumL (prs l) := addrs_len (fun p hp => (h1 p hp).2.1)
      have hats := addrs_sliced (prs l) off (sN l off ds.length) (fun p hp => (h1 p hp).2.1) h0 hN0
      have hfin := fine_sliced (n := sN l off ds.length) h1 h2 h0
      have haf := addrs0_f (r := l) ⟨h2, fun x hx => ⟨by have := (h1 x hx).1; omega, (h1 x hx).2⟩⟩ (k := 70000) (by omega)
      have hrin := rinside_f hfin ms (k := 70000) (by omega)
      have HRL := Lib.hid (And.intro hrl (And.intro haf hrin))
      have HX := Lib.hid (And.intro hats (And.intro hfin h1))
      clear hrl haf hrin hats hfin h1
      have hoi : off ≤ ((addrs (prs l)).length : Int) := by omega
      have hon : off.toNat ≤ (addrs (prs l)).length := by omega
      have hri := HRL.out.2.2
      replace HRL := Lib.hid (And.intro HRL.out.1 HRL.out.2.1)
      by_cases hgt : (ds.length : Int) < sumL (prs l) - off
      · have hNd : sN l off ds.length = ds.length := by unfold sN; rw [if_neg (by omega)]
        have hgt2 : ¬ ((((addrs (prs l)).length - off.toNat : Nat) : Int) ≤ (ds.length : Int)) := by omega
        by_cases hin : insideB ms.length (slicedL (prs l) off (sN l off ds.length)) = true
        · have hc : scode ms.length ds.length l off = 0 := by rw [scode_def, if_pos hck, if_neg (by omega), if_pos hin]
          have HC := Lib.hid hc
          rw [hin] at hri
          have HRI := Lib.hid hri
          have hset := setL_scat (slicedL (prs l) off (sN l off ds.length)) (byts ms) ((byts ds).take (sN l off ds.length).toNat) (fun x hx => ⟨(HX.out.2.1.2 x hx).1.1, (HX.out.2.1.2 x hx).2.1⟩) (by simpa [byts] using hin) (by have := sumL_slicedL (prs l) off (sN l off ds.length) hN0; simp [byts]; omega)
          have hal := addrs_all (fun x hx => ⟨(HX.out.2.1.2 x hx).1.1, (HX.out.2.1.2 x hx).2.1⟩) hin
          have HSET := Lib.hid (And.intro hset hal)
          clear hri hin hc hset hal
          obtain ⟨ss, hss⟩ : ∃ ss, ss = addrs (slicedL (prs l) off (sN l off ds.length)) := ⟨_, rfl⟩
          rw [← hss] at HSET HRI
          have HXS : Hid (ss = ((addrs (prs l)).drop off.toNat).take (sN l off ds.length).toNat) := by rw [hss]; exact Lib.hid HX.out.1
          clear hss
          go_wp2_with (first
            | (go_at_call 19; refine (orpimentref09_Length.calls 60 A cap l _ _ _ (Kd.C_below HL.out HB.out) hcap HRL.out.1).mono ?_; rintro e w1 ⟨rfl, hd⟩; replace HB := Lib.hid (below_then' HB.out hd); clear hd)
            | (go_at_call 36; refine (orpimentref09_addresses.calls 70000 A cap l _ _ (Kd.C_below HL.out HB.out) hcap HRL.out.2).mono ?_; rintro e w2 ⟨v5, rfl, hR, hd⟩; obtain ⟨A5, c5, rfl⟩ := Kd.R_slice hR; obtain ⟨_, hc5, h5⟩ := Kd.R_reads' hR; have H6 := Lib.hid (drop64 (o := off.toNat) (c := c5) h5 hon hc5); replace HB := Lib.hid (below_then' HB.out hd); clear hd hR h5)
            | (go_at_call 37; refine (inside_at2 (Kd.C_below HM.out HB.out) hmc (ats_of (aa := addrs (prs l)) (o := off.toNat) (k := (sN l off ds.length).toNat) (cv64 H6.out (by split <;> first | rfl | omega | contradiction)) HXS.out (by omega)) (by omega) HRI.out).mono ?_; rintro e w3 ⟨rfl, hd, hat⟩; replace HB := Lib.hid (below_then' HB.out hd); have HAT := Lib.hid hat; clear hd hat)
            | (at_builtin; go_loud (refine wpList_append_bytes rfl (.tmp 48) (.tmp 49) rfl w3.heap.size rfl M mc (byts ms) _ rfl (by simp [byts]) ⟨rfl, .inr ⟨w3.heap.size, 0, #[], rfl, Nat.le_refl _, heap_alloc_new w3 _, Nat.le_refl _, by simp [maxLen], rfl, rfl⟩⟩ ((mem_of_C (Kd.C_below HM.out HB.out)).below ((Below.refl _ _).alloc (Nat.le_refl _) _)) (by simp [byts]; omega) (by simp) ?_; intro v7 w7 ho7 hb7; replace hb7 : Below w3.heap.size w3 w7 := ((Below.refl _ _).alloc (Nat.le_refl _) _).trans hb7; rw [show (byts ms).length = ms.length by simp [byts]] at ho7; obtain ⟨A7, c7, rfl⟩ := ownsRow_slice ho7; have H7 := Lib.hid (And.intro ho7 hb7); clear ho7 hb7)))
          all_goals
            have hat0 := HAT.out
            (first | rw [if_pos ‹c5 = off.toNat›] at hat0 | rw [if_neg ‹¬ c5 = off.toNat›] at hat0 | skip)
            replace HAT := Lib.hid hat0
            clear hat0
            have hn6 : ss.length = ds.length := HAT.out.1
            have hK : (ss.length : Int) = sN l off ds.length := by omega
            by_cases hz : ss.length = 0
            · go_loopw [15] (fun i wr => ∃ k : Nat, k ≤ ss.length ∧ i = .int .i64 k ∧ Hid (wr.ownsRow w3.heap.size 5 1 (.slice A7 ms.length c7) ms.length (setL (byts ms) (ss.take k) (byts ds)) ∧ Below w3.heap.size w3 wr)) (fun i _ => ((ss.length : Int) - intOf i).toNat)
              case atStart => exact ⟨0, by omega, rfl, Lib.hid (by simpa [setL] using H7.out)⟩
              case round =>
                obtain ⟨k, hk, rfl, hi⟩ := hrel
                have hke : k = ss.length := by omega
                subst hke
                have hkn : ¬ ((ss.length : Int) < ((ds.length : Nat) : Int)) := by omega
                have hfin2 : setL (byts ms) (ss.take ss.length) (byts ds) = smem (byts ms) (byts ds) l off := by
                  rw [List.take_length, ← setL_cut ss (byts ms) (byts ds) (sN l off ds.length).toNat (by omega), HSET.out.1]
                  unfold smem
                  rw [show (byts ms).length = ms.length by simp [byts], show (byts ds).length = ds.length by simp [byts], if_pos HC.out]
                have HF := Lib.hid hfin2
                clear hfin2
                go_wp2
                exact bodyPost_ret (results_tmp3 rfl _ _ _) rfl (SPost.good _ HC.out (by rw [show sN l off ds.length = ((ds.length : Nat) : Int) by omega]; rfl) (by have h := hi.out.1; rw [HF.out] at h; exact owns_mono h HB.out.size) (below_then' HB.out hi.out.2))
            · first
                | (exfalso; omega)
                | (
                    obtain ⟨a5', e5, _⟩ := Kd.at_int HAT.out 0 (by omega) (by omega)
                    rcases A5 with _ | a5
                    · simp at e5
                    obtain ⟨dD, eD, _⟩ := Kd.at_int HD.out 0 (by omega) (by omega)
                    rcases D with _ | dd
                    · cases eD
                    have hms0 := HSET.out.2 (rd ss 0) (by simp [rd, rdOf, List.getD_eq_getElem?_getD, List.getElem?_eq_getElem (show 0 < ss.length by omega)])
                    obtain ⟨g7, c8, hv⟩ := ownsRow_pos H7.out.1 (by omega)
                    injection hv with hv1 _ hv3
                    subst hv1
                    subst hv3
                    clear e5 eD hms0
                    (try simp only [Option.map_some, Function.comp_apply] at HAT ⊢)
                    go_loopw [15] (fun i wr => ∃ k : Nat, k ≤ ss.length ∧ i = .int .i64 k ∧ Hid (wr.ownsRow w3.heap.size 5 1 (.slice (some ⟨g7, 0, none⟩) ms.length c7) ms.length (setL (byts ms) (ss.take k) (byts ds)) ∧ Below w3.heap.size w3 wr)) (fun i _ => ((ss.length : Int) - intOf i).toNat)
                    case atStart => exact ⟨0, by omega, rfl, Lib.hid (by simpa [setL] using H7.out)⟩
                    case round =>
                      obtain ⟨k, hk, rfl, hi⟩ := hrel
                      by_cases hlt : k < ss.length
                      · have hkd : k < ds.length := by omega
                        obtain ⟨ad6, e6, hc6⟩ := Kd.at_int (Kd.C_below HAT.out hi.out.2) (k : Int) (by omega) (by omega)
                        obtain ⟨adD, eD, hcD⟩ := Kd.at_int (Kd.C_below HD.out (below_then' HB.out hi.out.2)) (k : Int) (by omega) (by omega)
                        simp only [Option.map_some, Option.some.injEq, Function.comp_apply] at e6
                        subst e6
                        cases eD
                        have hab := HSET.out.2 (rd ss k) (by simp [rd, rdOf, List.getD_eq_getElem?_getD, List.getElem?_eq_getElem hlt])
                        have hsl := setL_length (ss.take k) (byts ms) (byts ds)
                        have hco := hi.out.1.cells (g := g7) rfl (rd ss k).toNat _ (List.getElem?_eq_getElem (by rw [hsl]; simp [byts]; omega))
                        rw [add_at, Nat.zero_add] at hco
                        have hfo := own_frozen' (g := g7) hi.out.1 (rd ss k).toNat
                        have hss1 := setL_at (ms := byts ms) (ds := byts ds) hlt (by simpa [byts] using hkd)
                        have hdk : (byts ds)[k]'(by simpa [byts] using hkd) = .int .u8 (rd ds k) := by simp [byts, rd, rdOf, List.getD_eq_getElem?_getD, List.getElem?_eq_getElem hkd]
                        rw [hdk] at hss1
                        have HS1 := Lib.hid hss1
                        generalize (setL (byts ms) (ss.take k) (byts ds))[(rd ss k).toNat]'_ = uold at hco
                        generalize rd ss k = aa6 at hc6 hab hco hfo HS1
                        generalize rd ds k = bb6 at hcD HS1
                        have hkz : (0 : Int) ≤ (k : Int) := by omega
                        have hkn : (k : Int) < ((ds.length : Nat) : Int) := by omega
                        have hkdI : (k : Int) < (ds.length : Int) := by omega
                        clear hss1 hsl hdk
                        rw [Int.toNat_natCast] at hc6 hcD
                        go_wp2
                        refine wp_region_still_tail 10 (by kernel_rfl) (by kernel_rfl) ?_
                        simp only [List.take_succ_cons, List.take_zero, List.drop_succ_cons, List.drop_zero]
                        iterate 10 ((with_reducible refine wpStill_step (fun K hK => ?_)); have HK := Lib.hid hK; clear hK; go_simp; (with_reducible refine HK.out _ ?_); clear HK K)
                        (with_reducible refine wpStill_nil ?_)
                        go_wp2
                        go_roundw
                        case rel => exact ⟨k + 1, by omega, by go_num, Lib.hid ⟨by rw [HS1.out]; exact own_set' (w := wr) hi.out.1 _ (by omega) _, (hi.out.2.setCell (p := ⟨g7, aa6.toNat, none⟩) (own_base' hi.out.1 g7 rfl) _).drew⟩⟩
                        case measure => simp [intOf]; omega
                      · have hke : k = ss.length := by omega
                        subst hke
                        have hkn : ¬ ((ss.length : Int) < ((ds.length : Nat) : Int)) := by omega
                        have hfin2 : setL (byts ms) (ss.take ss.length) (byts ds) = smem (byts ms) (byts ds) l off := by
                         rw [List.take_length, ← setL_cut ss (byts ms) (byts ds) (sN l off ds.length).toNat (by omega), HSET.out.1]
                         unfold smem
                         rw [show (byts ms).length = ms.length by simp [byts], show (byts ds).length = ds.length by simp [byts], if_pos HC.out]
                        have HF := Lib.hid hfin2
                        clear hfin2
                        go_wp2
                        exact bodyPost_ret (results_tmp3 rfl _ _ _) rfl (SPost.good _ HC.out (by rw [show sN l off ds.length = ((ds.length : Nat) : Int) by omega]; rfl) (by have h := hi.out.1; rw [HF.out] at h; exact owns_mono h HB.out.size) (below_then' HB.out hi.out.2)))
        · have hin' : insideB ms.length (slicedL (prs l) off (sN l off ds.length)) = false := by simpa using hin
          have hc : scode ms.length ds.length l off = 11 := by rw [scode_def, if_pos hck, if_neg (by omega), if_neg hin]
          have HC := Lib.hid hc
          clear hc
          rw [hin'] at hri
          have HRI := Lib.hid hri
          clear hri hin hin'
          go_wp2_with (first
            | (go_at_call 19; refine (orpimentref09_Length.calls 60 A cap l _ _ _ (Kd.C_below HL.out HB.out) hcap HRL.out.1).mono ?_; rintro e w1 ⟨rfl, hd⟩; replace HB := Lib.hid (below_then' HB.out hd); clear hd)
            | (go_at_call 36; refine (orpimentref09_addresses.calls 70000 A cap l _ _ (Kd.C_below HL.out HB.out) hcap HRL.out.2).mono ?_; rintro e w2 ⟨v5, rfl, hR, hd⟩; obtain ⟨A5, c5, rfl⟩ := Kd.R_slice hR; obtain ⟨_, hc5, h5⟩ := Kd.R_reads' hR; have H6 := Lib.hid (drop64 (o := off.toNat) (c := c5) h5 hon hc5); replace HB := Lib.hid (below_then' HB.out hd); clear hd hR h5)
            | (go_at_call 37; refine (inside_at (Kd.C_below HM.out HB.out) hmc (ats_of (aa := addrs (prs l)) (o := off.toNat) (k := (sN l off ds.length).toNat) (cv64 H6.out (by split <;> first | rfl | omega | contradiction)) HX.out.1 (by omega)) (by omega) HRI.out).mono ?_; rintro e w3 ⟨rfl, hd⟩; replace HB := Lib.hid (below_then' HB.out hd); clear hd))
          all_goals exact bodyPost_ret (results_tmp3 rfl _ _ _) rfl (SPost.bad _ HC.out (by decide) rfl HB.out)
      · have hNd : sN l off ds.length = sumL (prs l) - off := by unfold sN; split <;> omega
        by_cases hin : insideB ms.length (slicedL (prs l) off (sN l off ds.length)) = true
        · have hc : scode ms.length ds.length l off = 0 := by rw [scode_def, if_pos hck, if_neg (by omega), if_pos hin]
          have HC := Lib.hid hc
          rw [hin] at hri
          have HRI := Lib.hid hri
          have hset := setL_scat (slicedL (prs l) off (sN l off ds.length)) (byts ms) ((byts ds).take (sN l off ds.length).toNat) (fun x hx => ⟨(HX.out.2.1.2 x hx).1.1, (HX.out.2.1.2 x hx).2.1⟩) (by simpa [byts] using hin) (by have := sumL_slicedL (prs l) off (sN l off ds.length) hN0; simp [byts]; omega)
          have hal := addrs_all (fun x hx => ⟨(HX.out.2.1.2 x hx).1.1, (HX.out.2.1.2 x hx).2.1⟩) hin
          have HSET := Lib.hid (And.intro hset hal)
          clear hri hin hc hset hal
          obtain ⟨ss, hss⟩ : ∃ ss, ss = addrs (slicedL (prs l) off (sN l off ds.length)) := ⟨_, rfl⟩
          rw [← hss] at HSET HRI
          have HXS : Hid (ss = ((addrs (prs l)).drop off.toNat).take (sN l off ds.length).toNat) := by rw [hss]; exact Lib.hid HX.out.1
          clear hss
          go_wp2_with (first
            | (go_at_call 19; refine (orpimentref09_Length.calls 60 A cap l _ _ _ (Kd.C_below HL.out HB.out) hcap HRL.out.1).mono ?_; rintro e w1 ⟨rfl, hd⟩; replace HB := Lib.hid (below_then' HB.out hd); clear hd)
            | (go_at_call 36; refine (orpimentref09_addresses.calls 70000 A cap l _ _ (Kd.C_below HL.out HB.out) hcap HRL.out.2).mono ?_; rintro e w2 ⟨v5, rfl, hR, hd⟩; obtain ⟨A5, c5, rfl⟩ := Kd.R_slice hR; obtain ⟨_, hc5, h5⟩ := Kd.R_reads' hR; have H6 := Lib.hid (drop64 (o := off.toNat) (c := c5) h5 hon hc5); replace HB := Lib.hid (below_then' HB.out hd); clear hd hR h5)
            | (go_at_call 37; refine (inside_at2 (Kd.C_below HM.out HB.out) hmc (ats_of (aa := addrs (prs l)) (o := off.toNat) (k := (sN l off ds.length).toNat) (cv64 H6.out (by split <;> first | rfl | omega | contradiction)) HXS.out (by omega)) (by omega) HRI.out).mono ?_; rintro e w3 ⟨rfl, hd, hat⟩; replace HB := Lib.hid (below_then' HB.out hd); have HAT := Lib.hid hat; clear hd hat)
            | (at_builtin; go_loud (refine wpList_append_bytes rfl (.tmp 48) (.tmp 49) rfl w3.heap.size rfl M mc (byts ms) _ rfl (by simp [byts]) ⟨rfl, .inr ⟨w3.heap.size, 0, #[], rfl, Nat.le_refl _, heap_alloc_new w3 _, Nat.le_refl _, by simp [maxLen], rfl, rfl⟩⟩ ((mem_of_C (Kd.C_below HM.out HB.out)).below ((Below.refl _ _).alloc (Nat.le_refl _) _)) (by simp [byts]; omega) (by simp) ?_; intro v7 w7 ho7 hb7; replace hb7 : Below w3.heap.size w3 w7 := ((Below.refl _ _).alloc (Nat.le_refl _) _).trans hb7; rw [show (byts ms).length = ms.length by simp [byts]] at ho7; obtain ⟨A7, c7, rfl⟩ := ownsRow_slice ho7; have H7 := Lib.hid (And.intro ho7 hb7); clear ho7 hb7)))
          all_goals
            have hat0 := HAT.out
            (first | rw [if_pos ‹c5 = off.toNat›] at hat0 | rw [if_neg ‹¬ c5 = off.toNat›] at hat0 | skip)
            replace HAT := Lib.hid hat0
            clear hat0
            have hn6 : ss.length = ((addrs (prs l)).length - off.toNat) := HAT.out.1
            have hK : (ss.length : Int) = sN l off ds.length := by omega
            by_cases hz : ss.length = 0
            · go_loopw [15] (fun i wr => ∃ k : Nat, k ≤ ss.length ∧ i = .int .i64 k ∧ Hid (wr.ownsRow w3.heap.size 5 1 (.slice A7 ms.length c7) ms.length (setL (byts ms) (ss.take k) (byts ds)) ∧ Below w3.heap.size w3 wr)) (fun i _ => ((ss.length : Int) - intOf i).toNat)
              case atStart => exact ⟨0, by omega, rfl, Lib.hid (by simpa [setL] using H7.out)⟩
              case round =>
                obtain ⟨k, hk, rfl, hi⟩ := hrel
                have hke : k = ss.length := by omega
                subst hke
                have hkn : ¬ ((ss.length : Int) < ((((addrs (prs l)).length - off.toNat) : Nat) : Int)) := by omega
                have hfin2 : setL (byts ms) (ss.take ss.length) (byts ds) = smem (byts ms) (byts ds) l off := by
                  rw [List.take_length, ← setL_cut ss (byts ms) (byts ds) (sN l off ds.length).toNat (by omega), HSET.out.1]
                  unfold smem
                  rw [show (byts ms).length = ms.length by simp [byts], show (byts ds).length = ds.length by simp [byts], if_pos HC.out]
                have HF := Lib.hid hfin2
                clear hfin2
                go_wp2
                exact bodyPost_ret (results_tmp3 rfl _ _ _) rfl (SPost.good _ HC.out (by rw [show sN l off ds.length = ((((addrs (prs l)).length - off.toNat) : Nat) : Int) by omega]; rfl) (by have h := hi.out.1; rw [HF.out] at h; exact owns_mono h HB.out.size) (below_then' HB.out hi.out.2))
            · first
                | (exfalso; omega)
                | (
                    obtain ⟨a5', e5, _⟩ := Kd.at_int HAT.out 0 (by omega) (by omega)
                    rcases A5 with _ | a5
                    · simp at e5
                    obtain ⟨dD, eD, _⟩ := Kd.at_int HD.out 0 (by omega) (by omega)
                    rcases D with _ | dd
                    · cases eD
                    have hms0 := HSET.out.2 (rd ss 0) (by simp [rd, rdOf, List.getD_eq_getElem?_getD, List.getElem?_eq_getElem (show 0 < ss.length by omega)])
                    obtain ⟨g7, c8, hv⟩ := ownsRow_pos H7.out.1 (by omega)
                    injection hv with hv1 _ hv3
                    subst hv1
                    subst hv3
                    clear e5 eD hms0
                    (try simp only [Option.map_some, Function.comp_apply] at HAT ⊢)
                    go_loopw [15] (fun i wr => ∃ k : Nat, k ≤ ss.length ∧ i = .int .i64 k ∧ Hid (wr.ownsRow w3.heap.size 5 1 (.slice (some ⟨g7, 0, none⟩) ms.length c7) ms.length (setL (byts ms) (ss.take k) (byts ds)) ∧ Below w3.heap.size w3 wr)) (fun i _ => ((ss.length : Int) - intOf i).toNat)
                    case atStart => exact ⟨0, by omega, rfl, Lib.hid (by simpa [setL] using H7.out)⟩
                    case round =>
                      obtain ⟨k, hk, rfl, hi⟩ := hrel
                      by_cases hlt : k < ss.length
                      · have hkd : k < ds.length := by omega
                        obtain ⟨ad6, e6, hc6⟩ := Kd.at_int (Kd.C_below HAT.out hi.out.2) (k : Int) (by omega) (by omega)
                        obtain ⟨adD, eD, hcD⟩ := Kd.at_int (Kd.C_below HD.out (below_then' HB.out hi.out.2)) (k : Int) (by omega) (by omega)
                        simp only [Option.map_some, Option.some.injEq, Function.comp_apply] at e6
                        subst e6
                        cases eD
                        have hab := HSET.out.2 (rd ss k) (by simp [rd, rdOf, List.getD_eq_getElem?_getD, List.getElem?_eq_getElem hlt])
                        have hsl := setL_length (ss.take k) (byts ms) (byts ds)
                        have hco := hi.out.1.cells (g := g7) rfl (rd ss k).toNat _ (List.getElem?_eq_getElem (by rw [hsl]; simp [byts]; omega))
                        rw [add_at, Nat.zero_add] at hco
                        have hfo := own_frozen' (g := g7) hi.out.1 (rd ss k).toNat
                        have hss1 := setL_at (ms := byts ms) (ds := byts ds) hlt (by simpa [byts] using hkd)
                        have hdk : (byts ds)[k]'(by simpa [byts] using hkd) = .int .u8 (rd ds k) := by simp [byts, rd, rdOf, List.getD_eq_getElem?_getD, List.getElem?_eq_getElem hkd]
                        rw [hdk] at hss1
                        have HS1 := Lib.hid hss1
                        generalize (setL (byts ms) (ss.take k) (byts ds))[(rd ss k).toNat]'_ = uold at hco
                        generalize rd ss k = aa6 at hc6 hab hco hfo HS1
                        generalize rd ds k = bb6 at hcD HS1
                        have hkz : (0 : Int) ≤ (k : Int) := by omega
                        have hkn : (k : Int) < ((((addrs (prs l)).length - off.toNat) : Nat) : Int) := by omega
                        have hkdI : (k : Int) < (ds.length : Int) := by omega
                        clear hss1 hsl hdk
                        rw [Int.toNat_natCast] at hc6 hcD
                        go_wp2
                        refine wp_region_still_tail 10 (by kernel_rfl) (by kernel_rfl) ?_
                        simp only [List.take_succ_cons, List.take_zero, List.drop_succ_cons, List.drop_zero]
                        iterate 10 ((with_reducible refine wpStill_step (fun K hK => ?_)); have HK := Lib.hid hK; clear hK; go_simp; (with_reducible refine HK.out _ ?_); clear HK K)
                        (with_reducible refine wpStill_nil ?_)
                        go_wp2
                        go_roundw
                        case rel => exact ⟨k + 1, by omega, by go_num, Lib.hid ⟨by rw [HS1.out]; exact own_set' (w := wr) hi.out.1 _ (by omega) _, (hi.out.2.setCell (p := ⟨g7, aa6.toNat, none⟩) (own_base' hi.out.1 g7 rfl) _).drew⟩⟩
                        case measure => simp [intOf]; omega
                      · have hke : k = ss.length := by omega
                        subst hke
                        have hkn : ¬ ((ss.length : Int) < ((((addrs (prs l)).length - off.toNat) : Nat) : Int)) := by omega
                        have hfin2 : setL (byts ms) (ss.take ss.length) (byts ds) = smem (byts ms) (byts ds) l off := by
                         rw [List.take_length, ← setL_cut ss (byts ms) (byts ds) (sN l off ds.length).toNat (by omega), HSET.out.1]
                         unfold smem
                         rw [show (byts ms).length = ms.length by simp [byts], show (byts ds).length = ds.length by simp [byts], if_pos HC.out]
                        have HF := Lib.hid hfin2
                        clear hfin2
                        go_wp2
                        exact bodyPost_ret (results_tmp3 rfl _ _ _) rfl (SPost.good _ HC.out (by rw [show sN l off ds.length = ((((addrs (prs l)).length - off.toNat) : Nat) : Int) by omega]; rfl) (by have h := hi.out.1; rw [HF.out] at h; exact owns_mono h HB.out.size) (below_then' HB.out hi.out.2)))
        · have hin' : insideB ms.length (slicedL (prs l) off (sN l off ds.length)) = false := by simpa using hin
          have hc : scode ms.length ds.length l off = 11 := by rw [scode_def, if_pos hck, if_neg (by omega), if_neg hin]
          have HC := Lib.hid hc
          clear hc
          rw [hin'] at hri
          have HRI := Lib.hid hri
          clear hri hin hin'
          go_wp2_with (first
            | (go_at_call 19; refine (orpimentref09_Length.calls 60 A cap l _ _ _ (Kd.C_below HL.out HB.out) hcap HRL.out.1).mono ?_; rintro e w1 ⟨rfl, hd⟩; replace HB := Lib.hid (below_then' HB.out hd); clear hd)
            | (go_at_call 36; refine (orpimentref09_addresses.calls 70000 A cap l _ _ (Kd.C_below HL.out HB.out) hcap HRL.out.2).mono ?_; rintro e w2 ⟨v5, rfl, hR, hd⟩; obtain ⟨A5, c5, rfl⟩ := Kd.R_slice hR; obtain ⟨_, hc5, h5⟩ := Kd.R_reads' hR; have H6 := Lib.hid (drop64 (o := off.toNat) (c := c5) h5 hon hc5); replace HB := Lib.hid (below_then' HB.out hd); clear hd hR h5)
            | (go_at_call 37; refine (inside_at (Kd.C_below HM.out HB.out) hmc (ats_of (aa := addrs (prs l)) (o := off.toNat) (k := (sN l off ds.length).toNat) (cv64 H6.out (by split <;> first | rfl | omega | contradiction)) HX.out.1 (by omega)) (by omega) HRI.out).mono ?_; rintro e w3 ⟨rfl, hd⟩; replace HB := Lib.hid (below_then' HB.out hd); clear hd))
          all_goals exact bodyPost_ret (results_tmp3 rfl _ _ _) rfl (SPost.bad _ HC.out (by decide) rfl HB.out)
  · have hc : scode ms.length ds.length l off = chk (prs l) := by rw [scode_def, if_neg hck]
    have HC := Lib.hid hc
    clear hc
    rw [if_neg hck] at hrl
    go_wp2_with (first
      | (go_at_call 19; refine (orpimentref09_Length.calls 60 A cap l _ _ _ (Kd.C_below HL.out HB.out) hcap hrl).mono ?_; rintro e w1 ⟨rfl, hd⟩; replace HB := Lib.hid (below_then' HB.out hd); clear hd))
    exact bodyPost_ret (results_tmp3 rfl _ _ _) rfl (SPost.bad _ HC.out hck rfl HB.out)
end Go.Proofs.Ytbojagkalbfenaa
namespace Go.Proofs.Ytbojagkalbfenaa
set_option linter.unusedVariables false
set_option linter.unusedSimpArgs false
open Go.RowKit
attribute [local go_sem] Oper.semAt_some ints_get ints_size ints_getElem

set_option maxHeartbeats 1000000 in
set_option maxRecDepth 100000 in
/-- slices.Clone of bytes. -/
theorem clone_calls (A : Option Addr) (cap : Nat) (ds : List Value) (w : World) (hm : Mem w A ds) (h0 : A = none → ds = [] ∧ cap = 0) (hb : ds.length ≤ 1099511627776) :
    Calls Try.prog 25 #[.slice A ds.length cap] w fun e w' => ∃ v, e = .returned v ∧ w'.ownsRow w.heap.size 5 1 v ds.length ds ∧ Below w.heap.size w w' := by
  cases A with
  | none =>
    obtain ⟨rfl, rfl⟩ := h0 rfl
    have heq : ∀ W, (binOp .eql 22 (.slice none 0 0) (.slice none 0 0)).run Try.prog W = .ok (.bool true) W := fun W => run_eql_nil_slice W 22 5 none 0 0 0 0 Try.underlying22
    go_enter Try.func25, Try.ntmps25
    go_wp2
    go_ret
    exact ⟨_, rfl, ⟨rfl, .inl ⟨rfl, rfl⟩⟩, Below.refl _ _⟩
  | some ad =>
    have heq : ∀ W, (binOp .eql 22 (.slice (some ad) ds.length cap) (.slice none 0 0)).run Try.prog W = .ok (.bool false) W := fun W => Lib.run_eql_slice_nil W 22 5 (some ad) ds.length cap 0 0 Try.underlying22
    have HM := Lib.hid hm
    clear hm h0
    go_enter Try.func25, Try.ntmps25
    obtain ⟨i0, hi0, hz0, hz1, hz2⟩ := info_parts (P := Try.prog) (e := 5) (z := .int .u8 0) (size := 1) (bytes := 1) (by kernel_rfl)
    have HI0 := Lib.hid hi0
    have HZZ := Lib.hid (And.intro hz0 (And.intro hz1 hz2))
    clear hi0 hz0 hz1 hz2
    have hrow : (w.alloc (.cells #[] 5)).ownsRow w.heap.size 5 1 (.slice (some ⟨w.heap.size, 0, none⟩) 0 0) 0 [] :=
      ⟨rfl, .inr ⟨w.heap.size, 0, #[], rfl, Nat.le_refl _, heap_alloc_new w _, Nat.le_refl _, by simp [maxLen], rfl, rfl⟩⟩
    go_wp2_with (at_builtin; go_loud (refine wpList_append_own _ rfl (.tmp 5) (.tmp 6) 22 rfl w.heap.size 5 i0 (.int .u8 0) 1 1 Try.underlying22 HI0.out HZZ.out.1 HZZ.out.2.1 HZZ.out.2.2 rfl (by omega) _ 0 [] rfl hrow ad ds.length cap ds rfl (by omega) (fun j u hj => by obtain ⟨ad', e, hlt, hc⟩ := HM.out.cell j u hj; cases e; rw [World.cell?_alloc_lt _ _ _ (World.block_lt_of_cell? _ _ hc)]; exact hc) HM.out.one (by simp only [maxLen]; omega) (by omega) (by simp) ?_; intro v' w2 hown hgrow _))
    go_ret
    refine ⟨v', rfl, by simpa using hown, ((Below.refl _ _).alloc (Nat.le_refl _) _).grown hgrow (by simp) (fun k hk => by cases hk; exact Nat.le_refl _)⟩
end Go.Proofs.Ytbojagkalbfenaa
namespace Go.Proofs.Ytbojagkalbfenaa
set_option linter.unusedVariables false
set_option linter.unusedSimpArgs false
open Go.RowKit PIovGather Go.Proofs.YtbojagkalbfenaaW.PrintWords
attribute [local go_sem] ints_get ints_size ints_getElem

/-- small's answer, for two memories. -/
def smallB2 (nl nm nd : Nat) : Bool := decide (wrap64 (wrap64 ((nl : Int) + wrap64 ((nm : Int) / 100)) + wrap64 ((nd : Int) / 100)) ≤ 60)
theorem small2_f (l : List S44) (m d : List Int) {k : Nat} (hk : 4 ≤ k) : orpimentlaw09_small.f k l [m, d] = some (smallB2 l.length m.length d.length) := by
  obtain ⟨q, rfl⟩ : ∃ q, k = q + 1 + 1 + 1 := ⟨k - 3, by omega⟩
  have hw1 : wrap64 1 = 1 := by unfold wrap64; omega
  have hw2 : wrap64 2 = 2 := by unfold wrap64; omega
  simp [orpimentlaw09_small.f, orpimentlaw09_small.l0, hw1, hw2, rd_L1, smallB2]
theorem small2_cases {nl nm nd : Nat} (h : smallB2 nl nm nd = true) (h0 : nl ≤ 8796093022208) (h1 : nm ≤ 9223372036854775807) (h2 : nd ≤ 9223372036854775807) : nl ≤ 60 ∧ nm ≤ 6100 ∧ nd ≤ 6100 := by
  simp only [smallB2, decide_eq_true_eq] at h
  unfold wrap64 at h
  omega
/-- A row of two slices of bytes. -/
theorem C_two {w : World} {g : Nat} {M D : Option Addr} {ms ds : List Int} {mc dc : Nat} {t : TypeId} {fr : Nat × Nat} (h : w.heap[g]? = some (.cells #[.slice M ms.length mc, .slice D ds.length dc] t fr)) (hmc : ms.length ≤ mc) (hdc : ds.length ≤ dc) (hC : Kd.C (Kd.int .u8) w M ms.length ms) (hD : Kd.C (Kd.int .u8) w D ds.length ds) :
    Kd.C (Kd.slice 5 (Kd.int .u8)) w (some ⟨g, 0, none⟩) ([ms, ds] : List (List Int)).length [ms, ds] := by
  refine ⟨rfl, by simp, fun _ => ⟨_, rfl, fun j p hj => ?_⟩⟩
  match j, hj with
  | 0, hj =>
    cases hj
    refine ⟨[.slice M ms.length mc], rfl, ⟨M, mc, rfl, hmc, hC⟩, fun i u hi => ?_⟩
    match i, hi with
    | 0, hi =>
      cases hi
      rw [add_at, cell_of_row _ _ _ _ _ _ h]
      rfl
    | i + 1, hi => simp at hi
  | 1, hj =>
    cases hj
    refine ⟨[.slice D ds.length dc], rfl, ⟨D, dc, rfl, hdc, hD⟩, fun i u hi => ?_⟩
    match i, hi with
    | 0, hi =>
      cases hi
      rw [add_at, cell_of_row _ _ _ _ _ _ h]
      rfl
    | i + 1, hi => simp at hi
  | j + 2, hj => simp at hj

/-- Bytes stay bytes. -/
def Bs (l : List Value) : Prop := ∀ u ∈ l, ∃ p, u = Value.int .u8 p
theorem Bs_byts (l : List Int) : Bs (byts l) := fun u hu => by
  obtain ⟨p, _, rfl⟩ := List.mem_map.1 hu
  exact ⟨p, rfl⟩
theorem Bs_scat : ∀ (xs : List (Int × Int)) (ms ds : List Value), Bs ms → Bs ds → Bs (scat (ms, ds) xs).1
  | [], ms, ds, h, _ => h
  | x :: r, ms, ds, h, hd => by
    have h1 : Bs (wr ms x.1.toNat (ds.take x.2.toNat)) := fun u hu => by
      simp only [wr, List.mem_append] at hu
      rcases hu with (hu | hu) | hu
      · exact h u (List.mem_of_mem_take hu)
      · exact hd u (List.mem_of_mem_take hu)
      · exact h u (List.mem_of_mem_drop hu)
    have := Bs_scat r _ (ds.drop x.2.toNat) h1 (fun u hu => hd u (List.mem_of_mem_drop hu))
    simpa [scat, scatS] using this
theorem Bs_list : ∀ {l : List Value}, Bs l → ∃ x : List Int, l = byts x
  | [], _ => ⟨[], rfl⟩
  | u :: r, h => by
    obtain ⟨p, rfl⟩ := h u List.mem_cons_self
    obtain ⟨x, rfl⟩ := Bs_list (l := r) (fun v hv => h v (List.mem_cons_of_mem _ hv))
    exact ⟨p :: x, rfl⟩
theorem smem_byts (ms ds : List Int) (l : List S44) (off : Int) : ∃ x : List Int, smem (byts ms) (byts ds) l off = byts x := by
  refine Bs_list ?_
  unfold smem
  split
  · exact Bs_scat _ _ _ (Bs_byts ms) (fun u hu => Bs_byts ds u (List.mem_of_mem_take hu))
  · exact Bs_byts ms
theorem C_of_mrow {W : World} {base : Nat} {row : Option Nat} {V : Option Addr} {n vc : Nat} {x : List Int} (h : MRow W base row (.slice V n vc) n (byts x)) (hv : n ≤ vc) : Kd.C (Kd.int .u8) W V n x := by
  have hl := h.length
  rcases h with ⟨h1, _, h2⟩ | ⟨_, h2⟩
  · have : x = [] := by simpa [byts] using h2
    subst this
    subst h1
    exact ⟨rfl, by simp, fun h => absurd h (by omega)⟩
  · have hx : x.length = n := by simpa [byts] using hl
    subst hx
    obtain ⟨A, c, e, _, hC⟩ := C_of_own h2
    injection e with e1 _ _
    subst e1
    exact hC
/-- slices.Equal of two lists of bytes that are the same. -/
theorem equal_same {W : World} {A B : Option Addr} {ca cb : Nat} {l : List Int} {n m : Nat} (ha : Kd.C (Kd.int .u8) W A n l) (hb : Kd.C (Kd.int .u8) W B m l) (hca : n ≤ ca) (hcb : m ≤ cb) (hl : l.length ≤ 1000000) :
    Calls Try.prog 14 #[.slice A n ca, .slice B m cb] W fun e w' => e = .returned (.bool true) ∧ Below W.heap.size W w' := by
  have hn := ha.1
  have hm := hb.1
  subst hn; subst hm
  refine (slices_Equal_byte_byte.calls 1000002 A ca l B cb l true W ha hca hb hcb (by rw [equal_f l l hl (by omega)]; simp)).mono ?_
  rintro e w' ⟨rfl, hd⟩
  exact ⟨rfl, hd.below⟩
/-- slices.Clone of bytes: an own slice. -/
theorem clone_b (A : Option Addr) (cap : Nat) (ds : List Int) (w : World) (hC : Kd.C (Kd.int .u8) w A ds.length ds) (h0 : A = none → ds.length = 0 ∧ cap = 0) (hl : ds.length ≤ 6100) :
    Calls Try.prog 25 #[.slice A ds.length cap] w fun e w' => ∃ V vc, e = .returned (.slice V ds.length vc) ∧ ds.length ≤ vc ∧ vc ≤ 9223372036854775807 ∧ w'.ownsRow w.heap.size 5 1 (.slice V ds.length vc) ds.length (byts ds) ∧ Below w.heap.size w w' := by
  have hb : (byts ds).length = ds.length := by simp [byts]
  have := clone_calls A cap (byts ds) w (mem_of_C hC) (fun h => ⟨by have := (h0 h).1; simp [byts]; exact List.length_eq_zero_iff.1 this, (h0 h).2⟩) (by rw [hb]; omega)
  rw [hb] at this
  refine this.mono ?_
  rintro e w' ⟨v, rfl, ho, hd⟩
  obtain ⟨V, vc, rfl⟩ := ownsRow_slice ho
  refine ⟨V, vc, rfl, ?_, ?_, ho, hd⟩
  · rcases ho.2 with ⟨h, h'⟩ | ⟨_, _, _, h, _, _, h1, _⟩
    · omega
    · injection h with _ _ h3; omega
  · rcases ho.2 with ⟨h, h'⟩ | ⟨_, _, _, h, _, _, _, h1, _⟩
    · injection h with _ _ h3; omega
    · injection h with _ _ h3; simp only [maxLen] at h1; omega
end Go.Proofs.Ytbojagkalbfenaa
namespace Go.Proofs.Ytbojagkalbfenaa
set_option linter.unusedVariables false
set_option linter.unusedSimpArgs false
open Go.RowKit PIovGather Go.Proofs.YtbojagkalbfenaaW.PrintWords
attribute [local go_sem] ints_get ints_size ints_getElem

theorem arr2' {w : World} {g : Nat} {x y : Value} {t : TypeId} {fr : Nat × Nat} (h : w.heap[g]? = some (.cells #[x, y] t fr)) : w.cell? ⟨g, 0, none⟩ = some x ∧ w.cell? ⟨g, 1, none⟩ = some y := by
  constructor <;> (rw [cell_of_row _ _ _ _ _ _ h]; rfl)
theorem scatter_b (A : Option Addr) (cap : Nat) (l : List S44) (off : Int) (V : Option Addr) (vc base : Nat) (ms : List Int) (D : Option Addr) (dcap : Nat) (ds : List Int) (P0 : Nat → Prop) (w : World)
    (hrow : w.ownsRow base 5 1 (.slice V ms.length vc) ms.length (byts ms)) (hmem : Kd.C (Kd.int .u8) w D ds.length ds) (hdc : ds.length ≤ dcap) (hdm : dcap ≤ 9223372036854775807) (hD : ∀ ad, D = some ad → ad.block < w.heap.size ∧ some ad.block ≠ (Value.slice V ms.length vc).ownBlock)
    (hV : Kd.V k44 44 w w.heap.size P0 (.slice A l.length cap) l) (hA : ∀ ad, A = some ad → ad.block < w.heap.size ∧ some ad.block ≠ (Value.slice V ms.length vc).ownBlock) (hdl : ds.length ≤ 6100) (hn : ms.length ≤ 6100) :
    Calls Try.prog 26 #[.slice V ms.length vc, .slice A l.length cap, .int .i64 off, .slice D ds.length dcap] w fun e w' => e = .returned (.tuple #[.int .i64 (snum ms.length ds.length l off), .int .i64 (scode ms.length ds.length l off)]) ∧ MRow w' base (Value.slice V ms.length vc).ownBlock (.slice V ms.length vc) ms.length (smem (byts ms) (byts ds) l off) ∧ w.grownBy w' (Value.slice V ms.length vc).ownBlock := by
  have hb : (byts ds).length = ds.length := by simp [byts]
  have := scatterF A cap l off V vc base ms.length (Value.slice V ms.length vc).ownBlock (byts ms) D dcap (byts ds) P0 w (.inr ⟨rfl, hrow⟩) (mem_of_C hmem) (by rw [hb]; exact hdc) hdm hD hV hA (by rw [hb]; omega) (by omega)
  rw [hb] at this
  exact this
theorem own_block {W : World} {base : Nat} {n c : Nat} {V : Option Addr} {xs : List Value} (h : W.ownsRow base 5 1 (.slice V n c) n xs) : ∀ ad, V = some ad → base ≤ ad.block ∧ ad.block < W.heap.size := fun ad e => by
  subst e
  exact ⟨own_base' h ad.block rfl, own_lt' h ad.block rfl⟩
set_option maxHeartbeats 2000000 in
set_option maxRecDepth 100000 in
theorem scatter_law (M A : Option Addr) (ms : List Int) (l : List S44) (mc ac : Nat) (off : Int) (D : Option Addr) (dc : Nat) (ds : List Int) (P0 : Nat → Prop) (w : World) (hC : Kd.C (Kd.int .u8) w M ms.length ms) (hmc : ms.length ≤ mc) (hmx : mc ≤ 9223372036854775807) (hM0 : M = none → ms.length = 0 ∧ mc = 0)
    (hV : Kd.V k44 44 w w.heap.size P0 (.slice A l.length ac) l) (hA : ∀ ad, A = some ad → ad.block < w.heap.size) (hlz : l.length ≤ 8796093022208)
    (hD : Kd.C (Kd.int .u8) w D ds.length ds) (hdc : ds.length ≤ dc) (hdx : dc ≤ 9223372036854775807) (hD0 : D = none → ds.length = 0 ∧ dc = 0) :
    Calls Try.prog 6 #[.slice M ms.length mc, .slice A l.length ac, .agg #[.int .i64 off, .slice D ds.length dc]] w fun e w' => e = .returned (.bool true) ∧ Below w.heap.size w w' := by
  have hac := (Kd.V_reads' hV).2.1
  have HC := Lib.hid hC
  have HV := Lib.hid hV
  have HL := Lib.hid (Kd.V_reads' hV).2.2
  have HA := Lib.hid hA
  have HD := Lib.hid hD
  have HM0 := Lib.hid hM0
  have HD0 := Lib.hid hD0
  clear hC hV hA hD hM0 hD0
  go_enter Try.func6, Try.ntmps6
  have HB := Lib.hid (((Below.refl w.heap.size w).alloc (Nat.le_refl _) (.cells #[.int .i64 off, .slice D ds.length dc] 47)).alloc (by simp) (.cells #[.slice M ms.length mc, .slice D ds.length dc] 22))
  have HX : Hid (((w.alloc (.cells #[.int .i64 off, .slice D ds.length dc] 47)).alloc (.cells #[.slice M ms.length mc, .slice D ds.length dc] 22)).heap[w.heap.size]? = some (.cells #[.int .i64 off, .slice D ds.length dc] 47 (0, 0))) := Lib.hid (by rw [Below.heap_alloc _ _ _ (by simp)]; exact heap_alloc_new w _)
  have HS : Hid (((w.alloc (.cells #[.int .i64 off, .slice D ds.length dc] 47)).alloc (.cells #[.slice M ms.length mc, .slice D ds.length dc] 22)).heap[w.heap.size + 1]? = some (.cells #[.slice M ms.length mc, .slice D ds.length dc] 22 (0, 0))) := Lib.hid (by have := heap_alloc_new (w.alloc (.cells #[.int .i64 off, .slice D ds.length dc] 47)) (.cells #[.slice M ms.length mc, .slice D ds.length dc] 22); simpa using this)
  cases hsm : smallB2 l.length ms.length ds.length with
  | false =>
    go_wp2_with (first
      | (go_at_call 10; refine (orpimentlaw09_small.calls 4 A ac l (some ⟨w.heap.size + 1, 0, none⟩) 2 [ms, ds] false _ (Kd.C_below HL.out HB.out) hac (C_two HS.out hmc hdc (Kd.C_below HC.out HB.out) (Kd.C_below HD.out HB.out)) (by simp) (by rw [small2_f l ms ds (by omega), hsm])).mono ?_; rintro e w1 ⟨rfl, hd⟩; replace HB := Lib.hid (below_then' HB.out hd.below); clear hd)
      | (go_at_call 11; refine (awake_calls _).mono ?_; rintro e w9 ⟨rfl, hb⟩; replace HB := Lib.hid (below_then' HB.out hb); clear hb))
    go_ret
    exact ⟨rfl, HB.out⟩
  | true =>
    obtain ⟨hn60, hm61, hd61⟩ := small2_cases hsm hlz (by omega) (by omega)
    go_wp2_with (first
      | (go_at_call 10; refine (orpimentlaw09_small.calls 4 A ac l (some ⟨w.heap.size + 1, 0, none⟩) 2 [ms, ds] true _ (Kd.C_below HL.out HB.out) hac (C_two HS.out hmc hdc (Kd.C_below HC.out HB.out) (Kd.C_below HD.out HB.out)) (by simp) (by rw [small2_f l ms ds (by omega), hsm])).mono ?_; rintro e w1 ⟨rfl, hd⟩; replace HB := Lib.hid (below_then' HB.out hd.below); replace HX := Lib.hid (heap_kept HX.out hd.below); clear hd)
      | (go_at_call 25; refine (clone_b M mc ms _ (Kd.C_below HC.out HB.out) HM0.out hm61).mono ?_; rintro e w2 ⟨V, vc, rfl, hvc, hvx, ho, hd⟩; have HO := Lib.hid ho; have hlt1 := (Array.getElem?_eq_some_iff.1 HX.out).1; have HW := Lib.hid hd; replace HX := Lib.hid (heap_kept HX.out hd); replace HB := Lib.hid (below_then' HB.out hd); clear hd ho))
    obtain ⟨hx0, hx1⟩ := arr2' HX.out
    obtain ⟨sn, hsn⟩ : ∃ sn, snum ms.length ds.length l off = sn := ⟨_, rfl⟩
    obtain ⟨sc, hsc⟩ : ∃ sc, scode ms.length ds.length l off = sc := ⟨_, rfl⟩
    have HSN := Lib.hid (And.intro hsn hsc)
    clear hsn hsc
    have hob := own_block HO.out
    have HOB := Lib.hid hob
    clear hob
    go_region_held3 (fun w' => w'.cell? ⟨w.heap.size, 0, none⟩ = some (.int .i64 off) ∧ w'.cell? ⟨w.heap.size, 1, none⟩ = some (.slice D ds.length dc))
      (first | go_keep | exact ⟨hy0, hy1⟩ | exact ⟨hz0, hz1⟩)
      (first
        | (go_at_call 25; refine (clone_b D dc ds _ (Kd.C_below HD.out HB.out.drew) HD0.out hd61).mono ?_; rintro e w4 ⟨V2, vc2, rfl, hvc2, hvx2, ho2, hd2⟩; have hX4 := heap_kept (w := w2) HX.out ((show Below w2.heap.size w2 w2.drew from (Below.refl _ _).drew).trans hd2); obtain ⟨hy0, hy1⟩ := arr2' hX4; have HO2 := Lib.hid ho2; have HX4 := Lib.hid hX4; have HD4 := Lib.hid ((show Below w2.heap.size w2 w2.drew from (Below.refl _ _).drew).trans hd2); clear ho2 hX4 hd2)
        | (go_at_call 26; refine (scatter_b A ac l off V vc w1.heap.size ms V2 vc2 ds P0 _ (own_move HO.out (fun k hk => HD4.out.block k (own_lt' HO.out k hk))) (C_of_mrow (.inr ⟨rfl, HO2.out⟩) hvc2) hvc2 hvx2 (fun ad e => ⟨(own_block HO2.out ad e).2, fun e' => by have h1 := (own_block HO2.out ad e).1; have h2 := own_lt' HO.out ad.block e'.symm; simp at h1; omega⟩) (Kd.V_map (Kd.V_below HV.out (below_then' HB.out HD4.out)) (fun _ h => h)) (fun ad e => ⟨Nat.lt_of_lt_of_le (HA.out ad e) (below_then' HB.out HD4.out).size, fun e' => by have h1 := own_base' HO.out ad.block e'.symm; have h2 := HA.out ad e; omega⟩) hd61 hm61).mono ?_; rw [HSN.out.1, HSN.out.2]; rintro e w5 ⟨rfl, hr5, hg5⟩; have hB5 := (below_then' HB.out HD4.out).grown hg5 (below_then' HB.out HD4.out).size (fun k hk => by have h1 := own_base' HO.out k hk; omega); have hX5 := (hg5.block w.heap.size (Array.getElem?_eq_some_iff.1 HX4.out).1 (fun e' => by have h1 := own_base' HO.out w.heap.size e'.symm; omega)).trans HX4.out; obtain ⟨hz0, hz1⟩ := arr2' hX5; have H5 := Lib.hid (And.intro hr5 (And.intro hB5 hX5)); clear hr5 hg5 hB5 hX5))
    clear hx0 hx1
    by_cases hcode : sc = 0
    · subst hcode
      obtain ⟨x, hx⟩ := smem_byts ms ds l off
      have hr5 := H5.out.1
      rw [hx] at hr5
      have hxl : x.length ≤ 1000000 := by have := hr5.length; simp [byts] at this; omega
      have h5 := C_of_mrow hr5 hvc
      have HV5 := Lib.hid h5
      have HXX := Lib.hid hx
      clear hr5 h5 hx
      go_wp2_with (first
        | (go_at_call 27; refine (scattered_calls M mc ms A ac l off D dc ds _ (Kd.C_below HC.out H5.out.2.1) hmc (by omega) (Kd.C_below HL.out H5.out.2.1) hac (Kd.C_below HD.out H5.out.2.1) hdc (by omega)).mono ?_; intro e w6 hsp; obtain ⟨v6, he, hg6, hd6⟩ := hsp; rw [HSN.out.1, HSN.out.2] at he; subst he; have hg7 := hg6 HSN.out.2; rw [HXX.out, show ms.length = x.length from HV5.out.1.symm] at hg7; obtain ⟨A6, c6, rfl, hc6, h6⟩ := C_of_own hg7; have H6 := Lib.hid h6; have HB6 := Lib.hid (below_then' H5.out.2.1 hd6); have HD6 := Lib.hid hd6; clear hg6 hg7 hd6 h6)
        | (go_at_call 14; refine (equal_same (Kd.C_below HV5.out HD6.out) H6.out hvc hc6 hxl).mono ?_; rintro e w8 ⟨rfl, hd⟩; replace HB6 := Lib.hid (below_then' HB6.out hd); clear hd)
        | (go_at_call 11; refine (awake_calls _).mono ?_; rintro e w9 ⟨rfl, hb⟩; replace HB6 := Lib.hid (below_then' HB6.out hb); clear hb))
      go_ret
      exact ⟨rfl, HB6.out⟩
    · have hsn0 : sn = 0 := by rw [← HSN.out.1]; unfold snum; rw [if_neg (by rw [HSN.out.2]; exact hcode)]
      subst hsn0
      have hr5 := H5.out.1
      rw [show smem (byts ms) (byts ds) l off = byts ms by unfold smem; rw [show (byts ms).length = ms.length by simp [byts], show (byts ds).length = ds.length by simp [byts], if_neg (by rw [HSN.out.2]; exact hcode)]] at hr5
      have HV5 := Lib.hid (C_of_mrow hr5 hvc)
      clear hr5
      have hscb : (sc == 0) = false := by simpa using hcode
      go_wp2_with (first
        | (go_at_call 27; refine (scattered_calls M mc ms A ac l off D dc ds _ (Kd.C_below HC.out H5.out.2.1) hmc (by omega) (Kd.C_below HL.out H5.out.2.1) hac (Kd.C_below HD.out H5.out.2.1) hdc (by omega)).mono ?_; intro e w6 hsp; obtain ⟨v6, he, hg6, hd6⟩ := hsp; rw [HSN.out.1, HSN.out.2] at he; subst he; have HB6 := Lib.hid (below_then' H5.out.2.1 hd6); have HD6 := Lib.hid hd6; clear hg6 hd6)
        | (go_at_call 14; refine (equal_same (Kd.C_below HV5.out HD6.out) (Kd.C_below HC.out HB6.out) hvc hmc (by omega)).mono ?_; rintro e w8 ⟨rfl, hd⟩; replace HB6 := Lib.hid (below_then' HB6.out hd); clear hd)
        | (go_at_call 11; refine (awake_calls _).mono ?_; rintro e w9 ⟨rfl, hb⟩; replace HB6 := Lib.hid (below_then' HB6.out hb); clear hb))
      go_ret
      exact ⟨rfl, HB6.out⟩
end Go.Proofs.Ytbojagkalbfenaa
namespace Go.Proofs.Ytbojagkalbfenaa
open Go.RowKit PIovGather Go.Proofs.YtbojagkalbfenaaW.PrintWords
attribute [local go_sem] ints_get ints_size ints_getElem

/-- A row of one slice of bytes. -/
theorem C_one {w : World} {g : Nat} {M : Option Addr} {ms : List Int} {mc : Nat} {t : TypeId} {fr : Nat × Nat} (h : w.heap[g]? = some (.cells #[.slice M ms.length mc] t fr)) (hmc : ms.length ≤ mc) (hC : Kd.C (Kd.int .u8) w M ms.length ms) :
    Kd.C (Kd.slice 5 (Kd.int .u8)) w (some ⟨g, 0, none⟩) ([ms] : List (List Int)).length [ms] := by
  refine ⟨rfl, by simp, fun _ => ⟨_, rfl, fun j p hj => ?_⟩⟩
  match j, hj with
  | 0, hj =>
    cases hj
    refine ⟨[.slice M ms.length mc], rfl, ⟨M, mc, rfl, hmc, hC⟩, fun i u hi => ?_⟩
    match i, hi with
    | 0, hi =>
      cases hi
      rw [add_at, cell_of_row _ _ _ _ _ _ h]
      rfl
    | i + 1, hi => simp at hi
  | j + 1, hj => simp at hj
end Go.Proofs.Ytbojagkalbfenaa
namespace Go.Proofs.Ytbojagkalbfenaa
open Go.RowKit PIovGather Go.Proofs.YtbojagkalbfenaaW.PrintWords
attribute [local go_sem] ints_get ints_size ints_getElem

set_option maxHeartbeats 1000000 in
set_option maxRecDepth 100000 in
theorem law_big (M A : Option Addr) (ms : List Int) (l : List S44) (mc ac : Nat) (a b : Int) (w : World) (hC : Kd.C (Kd.int .u8) w M ms.length ms) (hmc : ms.length ≤ mc) (hl : Kd.C k44 w A l.length l) (hac : l.length ≤ ac) (hsm : smallB l.length ms.length = false) :
    Calls Try.prog 3 #[.slice M ms.length mc, .slice A l.length ac, .agg #[.int .i64 a, .int .i64 b]] w fun e w' => e = .returned (.bool true) ∧ Below w.heap.size w w' := by
  have HC := Lib.hid hC
  have HL := Lib.hid hl
  clear hC hl
  go_enter Try.func3, Try.ntmps3
  have hb0 : Below w.heap.size w ((w.alloc (.cells #[.int .i64 a, .int .i64 b] 24)).alloc (.cells #[.slice M ms.length mc] 22)) := ((Below.refl _ _).alloc (Nat.le_refl _) _).alloc (by simp) _
  have hh := heap_alloc_new (w.alloc (.cells #[.int .i64 a, .int .i64 b] 24)) (.cells #[.slice M ms.length mc] 22)
  have hz : (w.alloc (.cells #[.int .i64 a, .int .i64 b] 24)).heap.size = w.heap.size + 1 := by simp
  rw [hz] at hh
  have HH := Lib.hid hh
  have HB := Lib.hid hb0
  clear hh hb0
  go_wp2_with (first
    | (go_at_call 10; refine (orpimentlaw09_small.calls 3 A ac l (some ⟨w.heap.size + 1, 0, none⟩) 1 [ms] false _ (Kd.C_below HL.out HB.out) hac (C_one HH.out hmc (Kd.C_below HC.out HB.out)) (by simp) (by rw [small_f l ms (by omega), hsm])).mono ?_; rintro e w1 ⟨rfl, hd⟩; replace HB := Lib.hid (below_then' HB.out hd.below); clear hd)
    | (go_at_call 11; refine (awake_calls _).mono ?_; rintro e w2 ⟨rfl, hb⟩; replace HB := Lib.hid (below_then' HB.out hb); clear hb))
  go_ret
  exact ⟨rfl, HB.out⟩
end Go.Proofs.Ytbojagkalbfenaa
namespace Go.Proofs.Ytbojagkalbfenaa
open Go.RowKit PIovGather Go.Proofs.YtbojagkalbfenaaW.PrintWords
attribute [local go_sem] ints_get ints_size ints_getElem

/-- The answer's bytes, as whole numbers. -/
def gout (ms : List Int) (l : List (Int × Int)) (a b : Int) : List Int := if gcode ms.length l a b = 0 then gatherI ms (slicedL l a b) else []
theorem byts_length (ms : List Int) : (byts ms).length = ms.length := by simp [byts]
theorem gres_byts (ms : List Int) (l : List (Int × Int)) (a b : Int) : gres (byts ms) l a b = byts (gout ms l a b) := by
  unfold gres gout
  rw [byts_length]
  split
  · exact gatherL_map ms _ _
  · rfl
theorem gather_byts (M : Option Addr) (ms : List Int) (mc : Nat) (A : Option Addr) (cap : Nat) (l : List S44) (off n : Int) (P0 : Nat → Prop) (w : World) (hC : Kd.C (Kd.int .u8) w M ms.length ms) (hV : Kd.V k44 44 w w.heap.size P0 (.slice A l.length cap) l)
    (hA : ∀ ad, A = some ad → ad.block < w.heap.size) (hml : ms.length ≤ mc) (hmc : mc ≤ 9223372036854775807) :
    Calls Try.prog 12 #[.slice M ms.length mc, .slice A l.length cap, .int .i64 off, .int .i64 n] w fun e w' => ∃ A' c', e = .returned (.tuple #[.slice A' (gout ms (prs l) off n).length c', .int .i64 (gcode ms.length (prs l) off n)]) ∧ (gout ms (prs l) off n).length ≤ c' ∧ Kd.C (Kd.int .u8) w' A' (gout ms (prs l) off n).length (gout ms (prs l) off n) ∧ Below w.heap.size w w' := by
  have := gatherF M (byts ms) mc A cap l off n P0 w (mem_of_C hC) hV hA (by rw [byts_length]; exact hml) hmc
  rw [byts_length, gres_byts] at this
  refine this.mono ?_
  rintro e w' ⟨v, rfl, ho, hb⟩
  rw [byts_length] at ho
  obtain ⟨A', c', rfl, h1, h2⟩ := C_of_own ho
  exact ⟨A', c', rfl, h1, h2, hb⟩
theorem gout_len {ms : List Int} {l : List (Int × Int)} {a b : Int} : (gout ms l a b).length ≤ 65536 := by
  unfold gout
  split
  · rename_i h
    have hw : wth l a b = 0 := by
      unfold gcode at h
      split at h
      · assumption
      · assumption
    obtain ⟨h1, h2, _, _, h5, _⟩ := wth_zero hw
    have hf := fine_sliced (n := b) h1 h2 h5
    have := gatherL_bound (ds := byts ms) (fun x hx => (hf.2 x hx).2.2)
    rw [show byts ms = ms.map (Value.int .u8) from rfl, gatherL_map, List.length_map] at this
    have := hf.1
    omega
  · simp
theorem rg_f (ms : List Int) (l : List S44) (a b : Int) : orpimentref09_Gather.f 70000 ms l a b = some (gout ms (prs l) a b, gcode ms.length (prs l) a b) := by
  rw [rgather_f ms l a b (by omega)]
  unfold gout gcode
  by_cases h : wth (prs l) a b = 0
  · by_cases g : insideB ms.length (slicedL (prs l) a b) = true
    · simp [h, g]
    · simp [h, g]
  · simp [h]
end Go.Proofs.Ytbojagkalbfenaa
namespace Go.Proofs.Ytbojagkalbfenaa
set_option linter.unusedVariables false
set_option linter.unusedSimpArgs false
open Go.RowKit PIovGather Go.Proofs.YtbojagkalbfenaaW.PrintWords

theorem setL_other : ∀ (aa : List Int) (ms ds : List Value) (k : Nat), (∀ a ∈ aa, 0 ≤ a) → (k : Int) ∉ aa → (setL ms aa ds)[k]? = ms[k]?
  | [], ms, ds, k, _, _ => by simp [setL]
  | a :: aa, ms, [], k, _, _ => by simp [setL]
  | a :: aa, ms, d :: ds, k, h0, hk => by
    simp only [setL]
    have ha := h0 a List.mem_cons_self
    rw [setL_other aa _ ds k (fun b hb => h0 b (List.mem_cons_of_mem _ hb)) (fun h => hk (List.mem_cons_of_mem _ h)), List.getElem?_set_ne]
    intro e
    exact hk (by rw [← e, show ((a.toNat : Nat) : Int) = a by omega]; exact List.mem_cons_self)
theorem setL_back : ∀ (aa : List Int) (ms ds : List Value), aa.Nodup → (∀ a ∈ aa, 0 ≤ a ∧ a < ms.length) → aa.length = ds.length → aa.map (fun a => (setL ms aa ds)[a.toNat]?) = ds.map some
  | [], ms, [], _, _, _ => rfl
  | [], ms, d :: ds, _, _, h => by simp at h
  | a :: aa, ms, [], _, _, h => by simp at h
  | a :: aa, ms, d :: ds, hn, h, hl => by
    have ha := h a List.mem_cons_self
    have hn' := List.nodup_cons.1 hn
    simp only [setL, List.map_cons]
    rw [setL_back aa (ms.set a.toNat d) ds hn'.2 (fun b hb => by have := h b (List.mem_cons_of_mem _ hb); simpa using this) (by simpa using hl)]
    rw [setL_other aa _ ds a.toNat (fun b hb => (h b (List.mem_cons_of_mem _ hb)).1) (by rw [show ((a.toNat : Nat) : Int) = a by omega]; exact hn'.1)]
    rw [List.getElem?_set_self (by omega)]
theorem byts_get (x : List Int) (k : Nat) : (byts x)[k]? = (x[k]?).map (Value.int .u8) := by simp [byts]
theorem seg_nonneg {a : Int} (h : 0 ≤ a) (c : Nat) : ∀ x ∈ seg a c, 0 ≤ x := fun x hx => by have := seg_mem _ _ x hx; omega

/-- The plain law: what is scattered is gathered again, and other bytes stay. -/
theorem back_plain (ms data : List Int) (l : List S44) (hck : chk (prs l) = 0) (hnd : (addrs (prs l)).Nodup) (hin : ∀ a ∈ addrs (prs l), a < ms.length) :
    scode ms.length data.length l 0 = 0 ∧ snum ms.length data.length l 0 = sN l 0 data.length ∧ 0 ≤ sN l 0 data.length ∧ sN l 0 data.length ≤ data.length ∧
    ∃ x : List Int, smem (byts ms) (byts data) l 0 = byts x ∧ x.length = ms.length ∧ gcode ms.length (prs l) 0 (sN l 0 data.length) = 0 ∧ gout x (prs l) 0 (sN l 0 data.length) = data.take (sN l 0 data.length).toNat ∧
      ∀ k : Nat, (k : Int) ∉ addrs (prs l) → x[k]? = ms[k]? := by
  obtain ⟨h1, h2, h3, h4⟩ := chk_zero hck
  have hN0 : 0 ≤ sN l 0 data.length := by unfold sN; split <;> omega
  have hN1 : sN l 0 data.length ≤ data.length := by unfold sN; split <;> omega
  have hN2 : sN l 0 data.length ≤ sumL (prs l) := by unfold sN; split <;> omega
  have hw0 : wth (prs l) 0 0 = 0 := by unfold wth; rw [if_pos hck, if_neg (by omega)]
  have hw1 : wth (prs l) 0 (sN l 0 data.length) = 0 := by unfold wth; rw [if_pos hck, if_neg (by omega)]
  have hf := fine_sliced (n := sN l 0 data.length) h1 h2 (show (0 : Int) ≤ 0 by omega)
  have has := addrs_sliced (prs l) 0 (sN l 0 data.length) (fun p hp => (h1 p hp).2.1) (by omega) hN0
  rw [Int.toNat_zero, List.drop_zero] at has
  have hal : (addrs (slicedL (prs l) 0 (sN l 0 data.length))).length = (sN l 0 data.length).toNat := by
    have := addrs_len (l := prs l) (fun p hp => (h1 p hp).2.1)
    rw [has, List.length_take]
    omega
  have hsub : ∀ a ∈ addrs (slicedL (prs l) 0 (sN l 0 data.length)), a ∈ addrs (prs l) := fun a ha => by rw [has] at ha; exact List.mem_of_mem_take ha
  have hins : insideB ms.length (slicedL (prs l) 0 (sN l 0 data.length)) = true := by
    rw [← addrs_inside ms.length _ (fun x hx => (hf.2 x hx).2.1), List.all_eq_true]
    intro a ha
    simpa using hin a (hsub a ha)
  have hnd' : (addrs (slicedL (prs l) 0 (sN l 0 data.length))).Nodup := by rw [has]; exact (List.take_sublist _ _).nodup hnd
  have hall := addrs_all (fun x hx => ⟨(hf.2 x hx).1.1, (hf.2 x hx).2.1⟩) hins
  have hsc : scode ms.length data.length l 0 = 0 := by unfold scode; rw [if_pos hw0, if_pos hins]
  have hms : (byts ms).length = ms.length := by simp [byts]
  have hds : (byts data).length = data.length := by simp [byts]
  have hsm : smem (byts ms) (byts data) l 0 = setL (byts ms) (addrs (slicedL (prs l) 0 (sN l 0 data.length))) ((byts data).take (sN l 0 data.length).toNat) := by
    unfold smem
    rw [hms, hds, if_pos hsc]
    refine (setL_scat _ _ _ (fun x hx => ⟨(hf.2 x hx).1.1, (hf.2 x hx).2.1⟩) (by rw [hms]; exact hins) ?_).symm
    rw [List.length_take, hds]
    have := addrs_len (l := slicedL (prs l) 0 (sN l 0 data.length)) (fun p hp => by have := (hf.2 p hp).2.1; omega)
    omega
  obtain ⟨x, hx⟩ := smem_byts ms data l 0
  have hxl : x.length = ms.length := by
    have := congrArg List.length hx
    rw [hsm, setL_length, hms] at this
    simpa [byts] using this.symm
  have hgc : gcode ms.length (prs l) 0 (sN l 0 data.length) = 0 := by unfold gcode; rw [if_pos hw1, if_pos hins]
  refine ⟨hsc, by unfold snum; rw [if_pos hsc], hN0, hN1, x, hx, hxl, hgc, ?_, ?_⟩
  · unfold gout
    rw [hxl, if_pos hgc, ← addrs_map x _ (fun y hy => by have := hf.2 y hy; omega) (by rw [hxl]; exact hins)]
    have hb := setL_back (addrs (slicedL (prs l) 0 (sN l 0 data.length))) (byts ms) ((byts data).take (sN l 0 data.length).toNat) hnd' (fun a ha => by rw [hms]; exact hall a ha) (by rw [hal, List.length_take, hds]; omega)
    rw [← hsm, hx] at hb
    generalize addrs (slicedL (prs l) 0 (sN l 0 data.length)) = aa at *
    rw [show (byts data).take (sN l 0 data.length).toNat = byts (data.take (sN l 0 data.length).toNat) by simp [byts]] at hb
    generalize data.take (sN l 0 data.length).toNat = dd at *
    have key : ∀ (aa dd : List Int), (∀ a ∈ aa, 0 ≤ a ∧ a < (ms.length : Int)) → aa.map (fun a => (byts x)[a.toNat]?) = (byts dd).map some → aa.map (rd x) = dd := by
      intro aa
      induction aa with
      | nil => intro dd _ h; cases dd with | nil => rfl | cons a b => simp [byts] at h
      | cons a aa ih =>
        intro dd ha h
        cases dd with
        | nil => simp [byts] at h
        | cons d dd =>
          simp only [List.map_cons, byts, List.cons.injEq] at h
          have := ih dd (fun b hb => ha b (List.mem_cons_of_mem _ hb)) (by simpa [byts] using h.2)
          rw [List.map_cons, this]
          congr 1
          have h0 := h.1
          have hk := ha a List.mem_cons_self
          rw [List.getElem?_map, List.getElem?_eq_getElem (show a.toNat < x.length by omega)] at h0
          simp at h0
          simp [rd, rdOf, List.getD_eq_getElem?_getD, List.getElem?_eq_getElem (show a.toNat < x.length by omega), h0]
    exact key aa dd hall hb
  · intro k hk
    have h := setL_other (addrs (slicedL (prs l) 0 (sN l 0 data.length))) (byts ms) ((byts data).take (sN l 0 data.length).toNat) k (fun a ha => (hall a ha).1) (fun h => hk (hsub _ h))
    rw [← hsm, hx, byts_get, byts_get] at h
    cases hxk : x[k]? with
    | none =>
      have := List.getElem?_eq_none_iff.1 hxk
      exact (List.getElem?_eq_none (by omega)).symm
    | some q =>
      rw [hxk] at h
      cases hmk : ms[k]? with
      | none => rw [hmk] at h; simp at h
      | some q' => rw [hmk] at h; simp at h; rw [h]

/-- The marks of the owners: which bytes belong to a part. -/
def Marks (n : Nat) (ow : List Int) (aa : List Int) : Prop := ow.length = n ∧ aa.Nodup ∧ (∀ a ∈ aa, 0 ≤ a ∧ a < n) ∧ ∀ k : Nat, k < n → (ow.getD k 0 = 0 ↔ (k : Int) ∉ aa)
theorem Marks.none (n : Nat) : Marks n (List.replicate n 0) [] := ⟨by simp, List.nodup_nil, fun a h => by simp at h, fun k hk => by simp [List.getD_eq_getElem?_getD, hk]⟩
theorem Marks.snoc {n : Nat} {ow aa : List Int} {a v : Int} (h : Marks n ow aa) (h0 : 0 ≤ a) (h1 : a < n) (hz : ow.getD a.toNat 0 = 0) (hv : v ≠ 0) : Marks n (ow.set a.toNat v) (aa ++ [a]) := by
  obtain ⟨g1, g2, g3, g4⟩ := h
  have hna : a ∉ aa := by have := (g4 a.toNat (by omega)).1 hz; rwa [show ((a.toNat : Nat) : Int) = a by omega] at this
  refine ⟨by simpa using g1, ?_, ?_, ?_⟩
  · rw [List.nodup_append]
    refine ⟨g2, by simp, ?_⟩
    intro b hb c hc e
    simp at hc
    exact hna (by rw [← hc, ← e]; exact hb)
  · intro b hb
    rcases List.mem_append.1 hb with hb | hb
    · exact g3 b hb
    · simp at hb; omega
  · intro k hk
    by_cases e : k = a.toNat
    · subst e
      rw [List.getD_eq_getElem?_getD, List.getElem?_set_self (by omega)]
      simp [hv, show ((a.toNat : Nat) : Int) = a by omega]
    · rw [List.getD_eq_getElem?_getD, List.getElem?_set_ne (fun h => e h.symm), ← List.getD_eq_getElem?_getD, g4 k hk]
      simp only [List.mem_append, List.mem_singleton, not_or]
      exact ⟨fun h => ⟨h, by omega⟩, fun h => h.1⟩
theorem addrs_take {l : List (Int × Int)} {i : Nat} {p : Int × Int} (h : l[i]? = some p) : addrs (l.take (i + 1)) = addrs (l.take i) ++ seg p.1 p.2.toNat := by
  obtain ⟨hi, rfl⟩ := List.getElem?_eq_some_iff.1 h
  rw [List.take_succ_eq_append_getElem hi]
  simp only [addrs, List.flatMap_append, List.flatMap_cons, List.flatMap_nil, List.append_nil]
theorem seg_snoc (a : Int) (c : Nat) : seg a (c + 1) = seg a c ++ [a + c] := by
  rw [seg_append a c 1]; rfl
end Go.Proofs.Ytbojagkalbfenaa
namespace Go.Proofs.Ytbojagkalbfenaa
set_option linter.unusedVariables false
set_option linter.unusedSimpArgs false
open Go.RowKit PIovGather Go.Proofs.YtbojagkalbfenaaW.PrintWords Go.Proofs.YtbojagkalbfenaaW.PrintMore
attribute [local go_sem] ints_get ints_size ints_getElem

theorem ilen_f (l : List S44) {k : Nat} (hk : 60 ≤ k) : iov_Length.f k l = some (if chk (prs l) = 0 then sumL (prs l) else 0, chk (prs l)) := by
  rw [iov_Length.f, check_f l hk, Option.bind_some]
  by_cases h : chk (prs l) = 0
  · obtain ⟨h1, h2, _, _⟩ := chk_zero h
    rw [h, if_pos (by decide), total_f h1 (by rwa [prs_length] at h2) (by omega)]
    simp
  · simp [h]
theorem below_drewN {B : Nat} {a w : World} (h : Below B a w) (n : Nat) : Below B a (w.drewN n) := ⟨h.os, h.tape, h.output, h.size, h.block⟩
/-- The owners, in the world of a loop. -/
def OwnI (w0 : World) (g n : Nat) (aa : List Int) (wr : World) : Prop :=
  Below w0.heap.size w0 wr ∧ ∃ ow : List Int, wr.ownsRow w0.heap.size 3 1 (.slice (some ⟨g, 0, none⟩) n n) n (ow.map (Value.int .i64)) ∧ Marks n ow aa
theorem OwnI.lt {w0 wr : World} {g n : Nat} {aa : List Int} (h : OwnI w0 g n aa wr) : g < wr.heap.size := by
  obtain ⟨ow, hrow, _⟩ := h.2
  exact own_lt' hrow g rfl
theorem OwnI.base {w0 wr : World} {g n : Nat} {aa : List Int} (h : OwnI w0 g n aa wr) : w0.heap.size ≤ g := by
  obtain ⟨ow, hrow, _⟩ := h.2
  exact own_base' hrow g rfl
theorem OwnI.alloc {w0 wr : World} {g n : Nat} {aa : List Int} (h : OwnI w0 g n aa wr) (o : Obj) : OwnI w0 g n aa (wr.alloc o) := by
  obtain ⟨hb, ow, hrow, hm⟩ := h
  exact ⟨hb.alloc hb.size _, ow, own_move hrow (fun k hk => Below.heap_alloc _ _ _ (own_lt' hrow k hk)), hm⟩
theorem OwnI.below {w0 wr w1 : World} {g n : Nat} {aa : List Int} (h : OwnI w0 g n aa wr) (hb : Below wr.heap.size wr w1) : OwnI w0 g n aa w1 := by
  obtain ⟨hb0, ow, hrow, hm⟩ := h
  exact ⟨below_then' hb0 hb, ow, own_move hrow (fun k hk => hb.block k (own_lt' hrow k hk)), hm⟩
theorem OwnI.grown {w0 wr w1 : World} {g n : Nat} {aa : List Int} {row : Option Nat} (h : OwnI w0 g n aa wr) (hg : wr.grownBy w1 row) (hr : ∀ k, row = some k → g < k) : OwnI w0 g n aa w1 := by
  have hb := h.base
  obtain ⟨hb0, ow, hrow, hm⟩ := h
  exact ⟨hb0.grown hg hb0.size (fun k hk => by have := hr k hk; omega), ow, own_move hrow (fun k hk => hg.block k (own_lt' hrow k hk) (fun e => by have h1 := hr k e.symm; have h2 : g = k := (by simpa [Value.ownBlock] using hk); omega)), hm⟩
theorem OwnI.set {w0 wr : World} {g n : Nat} {aa : List Int} {ow : List Int} (hb : Below w0.heap.size w0 wr) (hrow : wr.ownsRow w0.heap.size 3 1 (.slice (some ⟨g, 0, none⟩) n n) n (ow.map (Value.int .i64))) (hm : Marks n ow aa) {a v : Int} (h0 : 0 ≤ a) (h1 : a < n) (hz : ow.getD a.toNat 0 = 0) (hv : v ≠ 0) :
    OwnI w0 g n (aa ++ [a]) (wr.setCell ⟨g, a.toNat, none⟩ (.int .i64 v)) :=
  ⟨hb.setCell (own_base' hrow g rfl) _, ow.set a.toNat v, by rw [List.map_set]; exact own_set' hrow _ (by omega) _, hm.snoc h0 h1 hz hv⟩
theorem own_made (w : World) (n : Nat) (hn : n ≤ 6100) : OwnI w w.heap.size n [] (w.alloc (.cells (madeCells #[.int .i64 0] n) 3)) := by
  refine ⟨(Below.refl _ _).alloc (Nat.le_refl _) _, List.replicate n 0, ⟨by simp, .inr ⟨w.heap.size, n, _, rfl, Nat.le_refl _, heap_alloc_new w _, Nat.le_refl _, by simp [maxLen]; omega, by simp [madeCells], ?_⟩⟩, Marks.none n⟩
  have he : ∀ x : Nat, (#[Value.int .i64 0] : Array Value)[x % 1]! = .int .i64 0 := fun x => by rw [Nat.mod_one]; rfl
  simp only [madeCells]
  simp [he]
  rw [List.take_of_length_le (by simp)]
  exact List.eq_replicate_iff.2 ⟨by simp, fun b hb => by simp at hb; exact hb.2.symm⟩

set_option maxHeartbeats 2000000 in
set_option maxRecDepth 100000 in
theorem back_big (M A : Option Addr) (ms : List Int) (l : List S44) (mc ac : Nat) (D : Option Addr) (dc : Nat) (ds : List Int) (P0 : Nat → Prop) (w : World) (hC : Kd.C (Kd.int .u8) w M ms.length ms) (hmc : ms.length ≤ mc) (hmx : mc ≤ 9223372036854775807)
    (hV : Kd.V k44 44 w w.heap.size P0 (.slice A l.length ac) l) (hD : Kd.C (Kd.int .u8) w D ds.length ds) (hdc : ds.length ≤ dc) (hdx : dc ≤ 9223372036854775807)
    (hbad : smallB2 l.length ms.length ds.length = false ∨ chk (prs l) ≠ 0) :
    Calls Try.prog 8 #[.slice M ms.length mc, .slice A l.length ac, .slice D ds.length dc] w fun e w' => e = .returned (.bool true) ∧ Below w.heap.size w w' := by
  have HC := Lib.hid hC
  have hac := (Kd.V_reads' hV).2.1
  have HL := Lib.hid (Kd.V_reads' hV).2.2
  have HV := Lib.hid hV
  have HD := Lib.hid hD
  have hlen := ilen_f l (k := 60) (by omega)
  have HB := Lib.hid (Below.refl w.heap.size w)
  clear hC hV hD
  generalize (if chk (prs l) = 0 then sumL (prs l) else 0) = q1 at hlen
  go_enter Try.func8, Try.ntmps8
  cases hsm : smallB2 l.length ms.length ds.length with
  | false =>
    clear hbad
    have HLEN := Lib.hid hlen
    clear hlen
    go_wp2_with (first
      | (go_at_call 18; refine (iov_Length.calls 60 P0 A ac l _ _ _ HV.out HLEN.out).mono ?_; rintro e w1 ⟨rfl, hd⟩; replace HB := Lib.hid (below_then' HB.out hd); clear hd)
      | (go_at_call 10; refine (orpimentlaw09_small.calls 4 A ac l _ 2 [ms, ds] false _ (Kd.C_below HL.out (HB.out.alloc HB.out.size _)) hac (C_two (heap_alloc_new w1 _) hmc hdc (Kd.C_below HC.out (HB.out.alloc HB.out.size _)) (Kd.C_below HD.out (HB.out.alloc HB.out.size _))) (by simp) (by rw [small2_f l ms ds (by omega), hsm])).mono ?_; rintro e w2 ⟨rfl, hd⟩; replace HB := Lib.hid (below_then' (HB.out.alloc HB.out.size _) hd.below); clear hd)
      | (go_at_call 11; refine (awake_calls _).mono ?_; rintro e w9 ⟨rfl, hb⟩; replace HB := Lib.hid (below_then' HB.out hb); clear hb))
    go_ret
    exact ⟨rfl, HB.out⟩
  | true =>
    have hck : chk (prs l) ≠ 0 := by rcases hbad with h | h; rw [hsm] at h; cases h; exact h
    have hckb : (chk (prs l) == 0) = false := by simpa using hck
    have HSM := Lib.hid hsm
    clear hbad hsm
    generalize chk (prs l) = cc at *
    have HLEN := Lib.hid hlen
    clear hlen hck
    go_wp2_with (first
      | (go_at_call 18; refine (iov_Length.calls 60 P0 A ac l _ _ _ HV.out HLEN.out).mono ?_; rintro e w1 ⟨rfl, hd⟩; replace HB := Lib.hid (below_then' HB.out hd); clear hd)
      | (go_at_call 10; refine (orpimentlaw09_small.calls 4 A ac l _ 2 [ms, ds] true _ (Kd.C_below HL.out (HB.out.alloc HB.out.size _)) hac (C_two (heap_alloc_new w1 _) hmc hdc (Kd.C_below HC.out (HB.out.alloc HB.out.size _)) (Kd.C_below HD.out (HB.out.alloc HB.out.size _))) (by simp) (by rw [small2_f l ms ds (by omega), HSM.out])).mono ?_; rintro e w2 ⟨rfl, hd⟩; replace HB := Lib.hid (below_then' (HB.out.alloc HB.out.size _) hd.below); clear hd)
      | (go_at_call 11; refine (awake_calls _).mono ?_; rintro e w9 ⟨rfl, hb⟩; replace HB := Lib.hid (below_then' HB.out hb); clear hb))
    go_ret
    exact ⟨rfl, HB.out⟩
end Go.Proofs.Ytbojagkalbfenaa
namespace Go.Proofs.Ytbojagkalbfenaa
set_option linter.unusedVariables false
set_option linter.unusedSimpArgs false
open Go.RowKit PIovGather Go.Proofs.YtbojagkalbfenaaW.PrintWords Go.Proofs.YtbojagkalbfenaaW.PrintMore
attribute [local go_sem] ints_get ints_size ints_getElem min2_int min_two

theorem run_make59 (W : World) (n : Nat) (hn : n ≤ 6100) : (Instr.makeSlice 59 (.int .i64 (n : Int)) (.int .i64 (n : Int))).run Try.prog W = .ok (.slice (some ⟨W.heap.size, 0, none⟩) n n) (W.alloc (.cells (madeCells #[.int .i64 0] n) 3)) := by
  obtain ⟨i0, hi0, hz0, hz1, hz2⟩ := info_parts (P := Try.prog) (e := 3) (z := .int .i64 0) (size := 1) (bytes := 8) (by kernel_rfl)
  have := run_make (P := Try.prog) W 59 3 i0 (.int .i64 0) Try.underlying59 hi0 hz0 .i64 .i64 n n (by omega) (by omega) (by rw [hz2]; omega) (by omega)
  rw [hz1, show (Value.int .i64 0).cells = #[.int .i64 0] from rfl] at this
  simpa using this

set_option maxHeartbeats 4000000 in
set_option maxRecDepth 100000 in
theorem back_fine (M A : Option Addr) (ms : List Int) (l : List S44) (mc ac : Nat) (D : Option Addr) (dc : Nat) (ds : List Int) (P0 : Nat → Prop) (w : World) (hC : Kd.C (Kd.int .u8) w M ms.length ms) (hmc : ms.length ≤ mc) (hmx : mc ≤ 9223372036854775807) (hM0 : M = none → ms.length = 0 ∧ mc = 0)
    (hV : Kd.V k44 44 w w.heap.size P0 (.slice A l.length ac) l) (hA : ∀ ad, A = some ad → ad.block < w.heap.size) (hD : Kd.C (Kd.int .u8) w D ds.length ds) (hdc : ds.length ≤ dc) (hdx : dc ≤ 9223372036854775807) (hDB : ∀ ad, D = some ad → ad.block < w.heap.size)
    (hsm : smallB2 l.length ms.length ds.length = true) (hck : chk (prs l) = 0) (hm61 : ms.length ≤ 6100) (hd61 : ds.length ≤ 6100) :
    Calls Try.prog 8 #[.slice M ms.length mc, .slice A l.length ac, .slice D ds.length dc] w fun e w' => e = .returned (.bool true) ∧ Below w.heap.size w w' := by
  have hac := (Kd.V_reads' hV).2.1
  have HL := Lib.hid (Kd.V_reads' hV).2.2
  have HV := Lib.hid hV
  have HC := Lib.hid hC
  have HD := Lib.hid hD
  have HA := Lib.hid hA
  have HDB := Lib.hid hDB
  have HM0 := Lib.hid hM0
  have HCK := Lib.hid hck
  have HSM := Lib.hid hsm
  have hlen := ilen_f l (k := 60) (by omega)
  rw [hck, if_pos rfl] at hlen
  obtain ⟨hok, hl16, hs0, hs1⟩ := chk_zero hck
  rw [prs_length] at hl16
  have HOK := Lib.hid hok
  have HLEN := Lib.hid hlen
  have HB := Lib.hid (Below.refl w.heap.size w)
  have hmk := fun W => run_make59 W ms.length hm61
  clear hC hV hD hA hDB hM0 hck hsm hlen hok
  go_enter Try.func8, Try.ntmps8
  go_wp2_with (first
    | (go_at_call 18; refine (iov_Length.calls 60 P0 A ac l _ _ _ HV.out HLEN.out).mono ?_; rintro e w1 ⟨rfl, hd⟩; replace HB := Lib.hid (below_then' HB.out hd); clear hd)
    | (go_at_call 10; refine (orpimentlaw09_small.calls 4 A ac l _ 2 [ms, ds] true _ (Kd.C_below HL.out (HB.out.alloc HB.out.size _)) hac (C_two (heap_alloc_new w1 _) hmc hdc (Kd.C_below HC.out (HB.out.alloc HB.out.size _)) (Kd.C_below HD.out (HB.out.alloc HB.out.size _))) (by simp) (by rw [small2_f l ms ds (by omega), HSM.out])).mono ?_; rintro e w2 ⟨rfl, hd⟩; replace HB := Lib.hid (below_then' (HB.out.alloc HB.out.size _) hd.below); clear hd))
  have HO := Lib.hid (own_made w2 ms.length hm61)
  generalize (w2.alloc (.cells (madeCells #[.int .i64 0] ms.length) 3)) = W3 at *
  clear hmk
  go_loopw [38] (fun i wr => ∃ k : Nat, k ≤ l.length ∧ i = .int .i64 k ∧ Hid (OwnI w2 w2.heap.size ms.length (addrs ((prs l).take k)) wr)) (fun i _ => l.length - (intOf i).toNat)
  case atStart => exact ⟨0, Nat.zero_le _, rfl, by simpa [addrs] using HO⟩
  case round =>
    obtain ⟨k, hk, rfl, HI⟩ := hrel
    by_cases hlt : k < l.length
    · obtain ⟨ad, hAe, hc0, hc1⟩ := at_T44 (Kd.C_below HL.out (below_then' HB.out HI.out.1)) (k : Int) (by omega) (by omega)
      rw [Int.toNat_natCast] at hc0 hc1
      subst hAe
      have hd := rd_prs l k hlt
      have hb := HOK.out ((rd_T44 l k).f0, (rd_T44 l k).f1) (List.mem_of_mem_drop (by rw [hd]; exact List.mem_cons_self))
      simp only at hb
      have hgk : (prs l)[k]? = some ((rd_T44 l k).f0, (rd_T44 l k).f1) := by
        have := congrArg List.head? hd
        rwa [List.head?_drop, List.head?_cons] at this
      have HAT := Lib.hid (addrs_take hgk)
      clear hd hgk
      generalize (rd_T44 l k).f0 = pa at *
      generalize (rd_T44 l k).f1 = pn at *
      have hcell : ∀ j v, (#[.int .i64 pa, .int .i64 pn] : Array Value)[j]? = some v → wr.cell? ((ad.add (k * 2)).add j) = some v := fun j v hj => by
        match j, hj with
        | 0, hj =>
          cases hj
          rw [show (ad.add (k * 2)).add 0 = ad.add (k * 2) by unfold Addr.add; simp]
          exact hc0
        | 1, hj =>
          cases hj
          rw [show (ad.add (k * 2)).add 1 = ⟨(ad.add (k * 2)).block, (ad.add (k * 2)).off + 1, none⟩ by unfold Addr.add; simp]
          exact hc1
        | j + 2, hj => simp at hj
      have HCELL := Lib.hid hcell
      have hlt' : (k : Int) < (l.length : Int) := by omega
      clear hcell hc0 hc1
      obtain ⟨wo, rfl⟩ : ∃ wo : World, wo = wr := ⟨_, rfl⟩
      go_wp2_with (first
        | ((with_reducible change wpList _ _ _ (⟨_, .load 44 (.tmp 41), _, _, _, _⟩ :: _) _ _); go_loud (refine wpList_load_cells (by rfl) 44 (.tmp 41) rfl (ad.add (k * 2)) rfl #[.int .i64 pa, .int .i64 pn] _ HCELL.out Try.underlying44 rfl (n := 2) (by kernel_rfl) rfl ?_)))
      have HJ0 : Hid (OwnI w2 w2.heap.size ms.length (addrs ((prs l).take k) ++ seg pa 0) (wo.alloc (.cells #[.int .i64 pa, .int .i64 pn] 44)) ∧ (wo.alloc (.cells #[.int .i64 pa, .int .i64 pn] 44)).heap[wo.heap.size]? = some (.cells #[.int .i64 pa, .int .i64 pn] 44 (0, 0))) := Lib.hid ⟨by simpa [seg] using HI.out.alloc _, heap_alloc_new wo _⟩
      have hgo := HI.out.lt
      go_loopw [12] (fun kk wi => ∃ j : Nat, j ≤ pn.toNat ∧ kk = .int .i64 (pa + j) ∧ Hid (OwnI w2 w2.heap.size ms.length (addrs ((prs l).take k) ++ seg pa j) wi ∧ wi.heap[wo.heap.size]? = some (.cells #[.int .i64 pa, .int .i64 pn] 44 (0, 0)))) (fun kk _ => (pa + pn - intOf kk).toNat)
      case atStart => exact ⟨0, Nat.zero_le _, by simp, HJ0⟩
      case round =>
        obtain ⟨j, hj, rfl, HJ⟩ := hrel
        obtain ⟨hq0, hq1⟩ := arr2' HJ.out.2
        have HJB := Lib.hid HJ.out.1.1
        have hjz : (0 : Int) ≤ (j : Int) := by omega
        by_cases hjl : (j : Int) < pn
        · have hzl : pa + (j : Int) < pa + pn := by omega
          have hz0 : 0 ≤ pa + (j : Int) := by omega
          have hzx : pa + (j : Int) ≤ 1099511631872 := by omega
          obtain ⟨z, hz⟩ : ∃ z, z = pa + (j : Int) := ⟨_, rfl⟩
          rw [← hz] at hzl hz0 hzx ⊢
          have HZ := Lib.hid hz
          clear hz
          by_cases hin : z < ms.length
          · obtain ⟨hbi, ow, hrow, hmarks⟩ := HJ.out.1
            have hol := hmarks.1
            have hco := hrow.cells (g := w2.heap.size) rfl z.toNat (.int .i64 (ow.getD z.toNat 0)) (by simp [List.getD_eq_getElem?_getD, List.getElem?_eq_getElem (show z.toNat < ow.length by omega)])
            rw [add_at, Nat.zero_add] at hco
            have hfo := own_frozen' (g := w2.heap.size) hrow z.toNat
            have HRW := Lib.hid (And.intro hbi (And.intro hrow hmarks))
            clear hbi hrow hmarks hol
            by_cases hown : ow.getD z.toNat 0 = 0
            · rw [hown] at hco
              have HOW := Lib.hid hown
              clear hown
              go_wp2
              all_goals exact ⟨⟨j + 1, by omega, by rw [HZ.out]; go_num, Lib.hid ⟨by rw [seg_snoc, ← List.append_assoc, ← HZ.out]; exact OwnI.set HRW.out.1 HRW.out.2.1 HRW.out.2.2 hz0 hin HOW.out (by omega), by rw [Below.heap_setCell _ _ _ _ (by simp; omega)]; exact HJ.out.2⟩⟩, by simp [intOf]; omega⟩
            · generalize ow.getD z.toNat 0 = o1 at hco hown
              have hob : (o1 == 0) = false := by simpa using hown
              have hob2 : (o1 != 0) = true := by simpa using hown
              clear hown
              go_wp2_with (first
                | (go_at_call 11; go_loud (refine (awake_calls _).mono ?_; rintro e w20 ⟨rfl, hb⟩; replace HJB := Lib.hid (below_then' HJB.out hb); clear hb)))
              go_ret
              exact ⟨rfl, below_then' HB.out HJB.out⟩
          · have hin' : ¬ (z < (ms.length : Int)) := hin
            go_wp2_with (first
              | (go_at_call 11; go_loud (refine (awake_calls _).mono ?_; rintro e w20 ⟨rfl, hb⟩; replace HJB := Lib.hid (below_then' HJB.out hb); clear hb)))
            go_ret
            exact ⟨rfl, below_then' HB.out HJB.out⟩
        · obtain rfl : j = pn.toNat := by omega
          have hzl : ¬ (pa + ((pn.toNat : Nat) : Int) < pa + pn) := by omega
          have HJ1 : Hid (OwnI w2 w2.heap.size ms.length (addrs ((prs l).take (k + 1))) wr) := Lib.hid (by rw [HAT.out]; exact HJ.out.1)
          go_wp2
          go_roundw
          case rel => exact ⟨k + 1, by omega, by go_num, HJ1⟩
          case measure => simp [intOf]; omega
    · obtain rfl : k = l.length := by omega
      have hge : ¬ ((l.length : Int) < (l.length : Int)) := by omega
      have HI2 : Hid (OwnI w2 w2.heap.size ms.length (addrs (prs l)) wr) := Lib.hid (by have := HI.out; rwa [List.take_of_length_le (by rw [prs_length]; omega)] at this)
      clear HI
      obtain ⟨hnd, hin⟩ : (addrs (prs l)).Nodup ∧ ∀ a ∈ addrs (prs l), a < (ms.length : Int) := ⟨by obtain ⟨_, ow, _, hm⟩ := HI2.out; exact hm.2.1, fun a ha => by obtain ⟨_, ow, _, hm⟩ := HI2.out; exact (hm.2.2.1 a ha).2⟩
      obtain ⟨p1, p2, p3, p4, x, p5, p6, p7, p8, p9⟩ := back_plain ms ds l HCK.out hnd hin
      have hmin : (if (ds.length : Int) < sumL (prs l) then (ds.length : Int) else sumL (prs l)) = sN l 0 ds.length := by unfold sN; split <;> split <;> omega
      have HPL := Lib.hid (And.intro p1 (And.intro p2 (And.intro p5 (And.intro p7 (And.intro p8 p9)))))
      have HMIN := Lib.hid hmin
      have HX6 := Lib.hid p6
      clear p1 p2 p5 p6 p7 p8 p9 hmin hnd hin
      generalize sN l 0 ds.length = NN at *
      have HBW := Lib.hid (below_then' HB.out HI2.out.1)
      have HI3 := Lib.hid HI2.out.lt
      have hws := HBW.out.size
      have htl : (ds.take NN.toNat).length = NN.toNat := by rw [List.length_take]; omega
      have hdt : Kd.C (Kd.int .u8) w D NN.toNat (ds.take NN.toNat) := by have := Kd.C_take (m := NN.toNat) HD.out (by omega); rwa [htl] at this
      have HDT := Lib.hid hdt
      have HTL := Lib.hid htl
      clear hdt htl
      go_wp2_with (first
        | (go_at_call 25; go_loud (refine (clone_b M mc ms _ (Kd.C_below HC.out HBW.out) HM0.out hm61).mono ?_; rintro e w5 ⟨V, vc, rfl, hvc, hvx, ho, hd⟩; replace HBW := Lib.hid (below_then' HBW.out hd); replace HI2 := Lib.hid (HI2.out.below hd); have HO := Lib.hid ho; clear hd ho))
        | (go_at_call 26; go_loud (refine (scatter_b A ac l 0 V vc _ ms D dc ds P0 _ HO.out (Kd.C_below HD.out HBW.out) hdc hdx (fun ad e => ⟨Nat.lt_of_lt_of_le (HDB.out ad e) HBW.out.size, fun e' => by have q1 := own_base' HO.out ad.block e'.symm; have q2 := HDB.out ad e; have q3 := HI2.out.1.size; have q4 := HB.out.size; omega⟩) (Kd.V_map (Kd.V_below HV.out HBW.out) (fun _ h => h)) (fun ad e => ⟨Nat.lt_of_lt_of_le (HA.out ad e) HBW.out.size, fun e' => by have q1 := own_base' HO.out ad.block e'.symm; have q2 := HA.out ad e; have q4 := HB.out.size; omega⟩) hd61 hm61).mono ?_; rw [HPL.out.1, HPL.out.2.1]; rintro e w6 ⟨rfl, hr6, hg6⟩; rw [HPL.out.2.2.1] at hr6; have hv6 := C_of_mrow hr6 hvc; have HS5 := HBW.out.size; replace HI2 := Lib.hid (HI2.out.grown hg6 (fun k hk => by have q1 := own_base' HO.out k hk; have q2 := HI3.out; omega)); replace HBW := Lib.hid (HBW.out.grown hg6 HBW.out.size (fun k hk => by have q1 := own_base' HO.out k hk; have q2 := HI3.out; have q4 := HB.out.size; omega)); have HV6 := Lib.hid hv6; have hmin := HMIN.out; clear hr6 hg6 hv6))
        | (go_at_call 12; go_loud (have hg := gather_byts V x vc A ac l 0 NN P0 _ (show Kd.C (Kd.int .u8) w6 V x.length x from by rw [HX6.out]; exact HV6.out) (Kd.V_map (Kd.V_below HV.out HBW.out) (fun _ h => h)) (fun ad e => Nat.lt_of_lt_of_le (HA.out ad e) HBW.out.size) (by rw [HX6.out]; exact hvc) hvx; rw [HX6.out, HPL.out.2.2.2.2.1, HPL.out.2.2.2.1] at hg; refine hg.mono ?_; rintro e w7 ⟨A7, c7, rfl, hc7, h7, hd⟩; rw [HTL.out] at hc7 h7; replace HBW := Lib.hid (below_then' HBW.out hd); replace HI2 := Lib.hid (HI2.out.below hd); replace HV6 := Lib.hid (Kd.C_below HV6.out hd); have H7 := Lib.hid h7; clear hd h7 hg hmin))
        | (go_at_call 14; go_loud (refine (equal_same H7.out (Kd.C_below HDT.out HBW.out) hc7 (by omega) (by rw [HTL.out]; omega)).mono ?_; rintro e w8 ⟨rfl, hd⟩; replace HBW := Lib.hid (below_then' HBW.out hd); replace HI2 := Lib.hid (HI2.out.below hd); replace HV6 := Lib.hid (Kd.C_below HV6.out hd); clear hd)))
      go_loopw [110] (fun i wr => ∃ k : Nat, k ≤ ms.length ∧ i = .int .i64 k ∧ Hid (Below w8.heap.size w8 wr)) (fun i _ => ms.length - (intOf i).toNat)
      case atStart => exact ⟨0, Nat.zero_le _, rfl, Lib.hid (Below.refl _ _)⟩
      case round =>
        obtain ⟨k, hk, rfl, HK⟩ := hrel
        by_cases hlt : k < ms.length
        · have hlt' : (k : Int) < (ms.length : Int) := by omega
          have hk0 : (0 : Int) ≤ (k : Int) := by omega
          obtain ⟨_, ow, hrow, hmarks⟩ := HI2.out.below HK.out
          have hol := hmarks.1
          have hco := hrow.cells (g := w2.heap.size) rfl k (.int .i64 (ow.getD k 0)) (by simp [List.getD_eq_getElem?_getD, List.getElem?_eq_getElem (show k < ow.length by omega)])
          rw [add_at, Nat.zero_add] at hco
          obtain ⟨aV, eV, hcV⟩ := Kd.at_int (Kd.C_below HV6.out HK.out) (k : Int) (by omega) (by omega)
          obtain ⟨aM, eM, hcM⟩ := Kd.at_int (Kd.C_below HC.out (below_then' HBW.out HK.out)) (k : Int) (by omega) (by omega)
          subst eV
          subst eM
          rw [Int.toNat_natCast] at hcV hcM
          by_cases hown : ow.getD k 0 = 0
          · have hna := (hmarks.2.2.2 k hlt).1 hown
            have hxe := HPL.out.2.2.2.2.2 k hna
            have hrd : rd x k = rd ms k := by simp [rd, rdOf, List.getD_eq_getElem?_getD, hxe]
            rw [hrd] at hcV
            rw [hown] at hco
            generalize rd ms k = bb at hcV hcM
            clear hrow hmarks hol hown hna hxe hrd
            go_wp2
            go_quiet (fail)
            go_wp2
            go_roundw
            case rel => exact ⟨k + 1, by omega, by go_num, Lib.hid (below_drewN HK.out _)⟩
            case measure => simp [intOf]; omega
          · generalize ow.getD k 0 = o1 at hco hown
            have hob : (o1 == 0) = false := by simpa using hown
            clear hrow hmarks hol hown
            go_wp2
            go_quiet (fail)
            go_wp2
            go_roundw
            case rel => exact ⟨k + 1, by omega, by go_num, Lib.hid (below_drewN HK.out _)⟩
            case measure => simp [intOf]; omega
        · obtain rfl : k = ms.length := by omega
          have hge : ¬ ((ms.length : Int) < (ms.length : Int)) := by omega
          go_wp2_with (first
            | (go_at_call 11; go_loud (refine (awake_calls _).mono ?_; rintro e w20 ⟨rfl, hb⟩; replace HK := Lib.hid (below_then' HK.out hb); clear hb)))
          go_ret
          exact ⟨rfl, below_then' HBW.out HK.out⟩
/-- The whole law of IovBack. -/
theorem back_law (M A : Option Addr) (ms : List Int) (l : List S44) (mc ac : Nat) (D : Option Addr) (dc : Nat) (ds : List Int) (P0 : Nat → Prop) (w : World) (hC : Kd.C (Kd.int .u8) w M ms.length ms) (hmc : ms.length ≤ mc) (hmx : mc ≤ 9223372036854775807) (hM0 : M = none → ms.length = 0 ∧ mc = 0)
    (hV : Kd.V k44 44 w w.heap.size P0 (.slice A l.length ac) l) (hA : ∀ ad, A = some ad → ad.block < w.heap.size) (hlz : l.length ≤ 8796093022208) (hD : Kd.C (Kd.int .u8) w D ds.length ds) (hdc : ds.length ≤ dc) (hdx : dc ≤ 9223372036854775807) (hDB : ∀ ad, D = some ad → ad.block < w.heap.size) :
    Calls Try.prog 8 #[.slice M ms.length mc, .slice A l.length ac, .slice D ds.length dc] w fun e w' => e = .returned (.bool true) ∧ Below w.heap.size w w' := by
  by_cases hck : chk (prs l) = 0
  · cases hsm : smallB2 l.length ms.length ds.length with
    | true =>
      obtain ⟨h1, h2, h3⟩ := small2_cases hsm hlz (by omega) (by omega)
      exact back_fine M A ms l mc ac D dc ds P0 w hC hmc hmx hM0 hV hA hD hdc hdx hDB hsm hck h2 h3
    | false => exact back_big M A ms l mc ac D dc ds P0 w hC hmc hmx hV hD hdc hdx (.inl hsm)
  · exact back_big M A ms l mc ac D dc ds P0 w hC hmc hmx hV hD hdc hdx (.inr hck)
end Go.Proofs.Ytbojagkalbfenaa
namespace Go.Proofs.Ytbojagkalbfenaa
open Go.RowKit Go.WideShapes Go.ChangeShapes Go.Deep PIovGather Go.Proofs.YtbojagkalbfenaaW.PrintWords
section
variable {H : Type} {enc : TypeId × Value → H} {P : Program} {w : World} {base : Nat} {spare : Nat → Bool} {held : Bool}
theorem cells_of {a : Addr} {n : Nat} {cs : List Value} (h : w.cells? base a n = some cs) : cs.length = n ∧ ∀ q, q < n → w.cell? (a.add q) = cs[q]? := by
  unfold World.cells? at h
  split at h
  · have hl := mapM_some_length h
    rw [List.length_range] at hl
    exact ⟨hl, fun q hq => mapM_some_get h q q (by simp [hq])⟩
  · simp at h

/-- A slice that came in, whatever its elements: its shape, its reach, and each element's cells with their reading. -/
theorem open_rows {r : Reach} {b0 : Nat} {ts : List TypeId} {ds : List (DataW H)} {j : Nat} {t e : TypeId} {m B : Nat} {v : Value} {d : DataW H} {p : List MemPlace} (hu : P.underlying t = some (.slice e)) (hm : P.cellsOf e = m) (hB : P.bytesOf e = B)
    (ht : ts[j]? = some t) (hd : ds[j]? = some d) (hsz : (DataW.weightsEach P ts ds).all (· ≤ reachBytes) = true)
    (hv : Value.okWide P w r b0 t v) (h : DataW.Trod enc P w base spare held t v d p) :
    ∃ A len cap, v = .slice A len cap ∧ len ≤ cap ∧ cap ≤ maxLen ∧ len * B ≤ 140737488351232 ∧ (A = none → len = 0 ∧ cap = 0) ∧ ∀ i, i < len → ∃ ad cs fuel y, A = some ad ∧ cs.length = m ∧ (∀ q, q < m → w.cell? (ad.add (i * m + q)) = cs[q]?) ∧ DataW.trod enc P w base spare held fuel e cs = some y := by
  obtain ⟨A, len, cap, rfl⟩ := okWide_slice hu hv
  obtain ⟨fuel, hf⟩ := h
  refine ⟨A, len, cap, rfl, ?_⟩
  rcases open_slice hu hf with ⟨hcs, _⟩ | ⟨a, len', cap', m', n, D, Pl, hcs, _, hl, hml, hm', hx, hi⟩
  · simp [Value.cells] at hcs
    obtain ⟨rfl, rfl, rfl⟩ := hcs
    exact ⟨Nat.le_refl _, by simp [maxLen], by simp, fun _ => ⟨rfl, rfl⟩, fun i hi => by omega⟩
  · simp [Value.cells] at hcs
    obtain ⟨rfl, rfl, rfl⟩ := hcs
    obtain ⟨hx, _⟩ := Prod.mk.inj hx
    subst hx
    have z := sized_slice hsz ht hd hu
    rw [hB] at z
    simp only [List.length_map, List.length_range] at z
    have hlm : len ≤ m' := by rw [hm']; split <;> omega
    refine ⟨hl, hml, Nat.le_trans (Nat.mul_le_mul_right _ (by omega)) z, fun h => (by cases h), fun i hil => ?_⟩
    obtain ⟨cs', hc', ht'⟩ := hi i (by omega)
    rw [hm] at hc'
    obtain ⟨h1, h2⟩ := cells_of hc'
    exact ⟨a, cs', n, _, rfl, h1, fun q hq => by rw [← Deep.add_add]; exact h2 q hq, ht'⟩
theorem slice_block {r : Reach} {b0 : Nat} {t e : TypeId} {a : Addr} {n c : Nat} (hu : P.underlying t = some (.slice e)) (hv : Value.okWide P w r b0 t (.slice (some a) n c)) : a.block < w.heap.size := by
  simp only [Value.okWide, hu, Cell.okWide, Cell.ok] at hv
  obtain ⟨_, _, _, _, row, cells, hs, _⟩ := hv
  unfold World.shape? at hs
  by_cases h : a.block < w.heap.size
  · exact h
  · rw [Array.getElem?_eq_none (by omega)] at hs
    cases hs
end
theorem open22 {H : Type} {enc : TypeId × Value → H} {w : World} {base : Nat} {spare : Nat → Bool} {held : Bool} {r : Reach} {b0 : Nat} {ts : List TypeId} {ds : List (DataW H)} {j t : Nat} {v : Value} {d : DataW H} {p : List MemPlace}
    (htt : t = 22) (ht : ts[j]? = some t) (hd : ds[j]? = some d) (hsz : (DataW.weightsEach Try.prog ts ds).all (· ≤ reachBytes) = true)
    (hv : Value.okWide Try.prog w r b0 22 v) (h : DataW.Trod enc Try.prog w base spare held 22 v d p) :
    ∃ (A : Option Addr) (cap : Nat) (ms : List Int), v = .slice A ms.length cap ∧ Kd.C (Kd.int .u8) w A ms.length ms ∧ ms.length ≤ cap ∧ cap ≤ 9223372036854775807 ∧ (A = none → ms.length = 0 ∧ cap = 0) := by
  subst htt
  obtain ⟨A, len, cap, rfl, hl, hm, hz, hnil, hi⟩ := open_rows (m := 1) (B := 1) Try.underlying22 (by kernel_rfl) (by kernel_rfl) ht hd hsz hv h
  have hc : ∀ i, i < len → ∃ q : Int, ∃ ad, A = some ad ∧ w.cell? (ad.add i) = some (.int .u8 q) := by
    intro i hil
    obtain ⟨ad, cs, fuel, y, rfl, hl, hcell, hy⟩ := hi i hil
    obtain ⟨a, rfl, _⟩ := DataW.trod_int Try.underlying5 hy
    exact ⟨a, ad, rfl, by simpa using hcell 0 (by omega)⟩
  obtain ⟨f, hf⟩ := Deep.choose_lt hc
  refine ⟨A, cap, (List.range len).map f, by simp, ⟨rfl, by simp; simp only [maxLen] at hm; omega, fun hp => ?_⟩, by simpa using hl, by simp only [maxLen] at hm; omega, fun e => by simpa using hnil e⟩
  simp only [List.length_map, List.length_range] at hp
  obtain ⟨ad, rfl, _⟩ := hf 0 hp
  refine ⟨ad, rfl, fun j p hj => ⟨[.int .u8 p], rfl, rfl, fun i u hu => ?_⟩⟩
  match i, hu with
  | 0, hu =>
    cases hu
    have hjl : j < len := by
      have := (List.getElem?_eq_some_iff.1 hj).1
      simpa using this
    obtain ⟨ad2, e, h2⟩ := hf j hjl
    cases e
    obtain rfl : f j = p := by simpa [hjl] using hj
    simpa [Kd.int, Kd.scalar] using h2
  | i + 1, hu => simp at hu
theorem pairs_kept {w w1 : World} {A : Option Addr} {l : List (Int × Int)} (h : Pairs w A l) (hb : ∀ k, k < w.heap.size → w1.heap[k]? = w.heap[k]?) : Pairs w1 A l := by
  intro i hi
  obtain ⟨ad, e, h1, h2⟩ := h i hi
  exact ⟨ad, e, (World.cell?_of_block (w := w) (hb _ (World.block_lt_of_cell? _ _ h1))).trans h1, (World.cell?_of_block (w := w) (hb _ (World.block_lt_of_cell? _ _ h2))).trans h2⟩
theorem C_of_pairs {w : World} {A : Option Addr} {l : List S44} (hl : l.length ≤ 9223372036854775807) (h : Pairs w A (prs l)) : Kd.C k44 w A l.length l := by
  refine ⟨rfl, hl, fun hp => ?_⟩
  obtain ⟨ad, e, _⟩ := h 0 (by rw [prs_length]; exact hp)
  refine ⟨ad, e, fun j p hj => ⟨[.int .i64 p.f0, .int .i64 p.f1], rfl, k44_mk w p, fun i u hu => ?_⟩⟩
  have hjl := (List.getElem?_eq_some_iff.1 hj).1
  obtain ⟨ad2, e2, h1, h2⟩ := h j (by rw [prs_length]; exact hjl)
  rw [e] at e2
  cases e2
  have hg : (prs l).getD j (0, 0) = (p.f0, p.f1) := by simp [prs, List.getD_eq_getElem?_getD, hj]
  rw [hg] at h1 h2
  show w.cell? (ad.add (j * 2 + i)) = some u
  match i, hu with
  | 0, hu => cases hu; exact h1
  | 1, hu =>
    cases hu
    rw [show ad.add (j * 2 + 1) = ⟨(ad.add (j * 2)).block, (ad.add (j * 2)).off + 1, none⟩ by rw [← Deep.add_add]; unfold Addr.add; simp]
    exact h2
  | i + 2, hu => simp at hu
theorem V_of_pairs {w : World} {b : Nat} {A : Option Addr} {l : List S44} {c : Nat} (hc : l.length ≤ c) (hl : l.length ≤ 9223372036854775807) (h : Pairs w A (prs l)) : Kd.V k44 44 w b (fun k => k < w.heap.size) (.slice A l.length c) l := by
  refine Kd.V_mk hc (fun W' hW' => C_of_pairs hl (pairs_kept h ?_))
  intro i hi
  exact hW' i hi hi
theorem open23 {H : Type} {enc : TypeId × Value → H} {w : World} {base : Nat} {spare : Nat → Bool} {held : Bool} {r : Reach} {b0 : Nat} {ts : List TypeId} {ds : List (DataW H)} {j t : Nat} {v : Value} {d : DataW H} {p : List MemPlace}
    (htt : t = 23) (ht : ts[j]? = some t) (hd : ds[j]? = some d) (hsz : (DataW.weightsEach Try.prog ts ds).all (· ≤ reachBytes) = true)
    (hv : Value.okWide Try.prog w r b0 23 v) (h : DataW.Trod enc Try.prog w base spare held 23 v d p) :
    ∃ (A : Option Addr) (cap : Nat) (l : List S44), v = .slice A l.length cap ∧ Kd.V k44 44 w w.heap.size (fun k => k < w.heap.size) (.slice A l.length cap) l ∧ (∀ ad, A = some ad → ad.block < w.heap.size) ∧ l.length * 16 ≤ 140737488351232 := by
  subst htt
  obtain ⟨A, len, cap, rfl, hl, _, hz, _, hi⟩ := open_rows (m := 2) (B := 16) Try.underlying23 (by kernel_rfl) (by kernel_rfl) ht hd hsz hv h
  have hc : ∀ i, i < len → ∃ q : S44, ∃ ad, A = some ad ∧ w.cell? (ad.add (i * 2)) = some (.int .i64 q.f0) ∧ w.cell? ⟨(ad.add (i * 2)).block, (ad.add (i * 2)).off + 1, none⟩ = some (.int .i64 q.f1) := by
    intro i hil
    obtain ⟨ad, cs, fuel, y, rfl, hl, hcell, hy⟩ := hi i hil
    obtain ⟨y0, y1, m, _, _, g0, g1⟩ := trod_struct2 Try.underlying44 hy
    obtain ⟨a, ea, _⟩ := DataW.trod_int Try.underlying2 g0
    obtain ⟨b, eb, _⟩ := DataW.trod_int Try.underlying2 g1
    rw [show Try.prog.cellsOf 2 = 1 by kernel_rfl] at ea eb
    match cs, hl with
    | [c0, c1], _ =>
      simp at ea eb
      subst ea eb
      have h0 := hcell 0 (by omega)
      have h1 := hcell 1 (by omega)
      refine ⟨⟨a, b⟩, ad, rfl, by simpa using h0, ?_⟩
      rw [← Deep.add_add] at h1
      have e2 : (ad.add (i * 2)).add 1 = ⟨(ad.add (i * 2)).block, (ad.add (i * 2)).off + 1, none⟩ := by unfold Addr.add; simp
      rw [e2] at h1
      simpa using h1
  haveI : Inhabited S44 := ⟨z44⟩
  obtain ⟨f, hf⟩ := Deep.choose_lt hc
  have hp : Pairs w A (prs ((List.range len).map f)) := by
    intro i hil
    rw [prs_length] at hil
    simp only [List.length_map, List.length_range] at hil
    have := hf i hil
    simpa [prs, List.getD_eq_getElem?_getD, hil] using this
  refine ⟨A, cap, (List.range len).map f, by simp, V_of_pairs (by simpa using hl) (by simp; omega) hp, ?_, by simpa using hz⟩
  rintro ad rfl
  exact slice_block Try.underlying23 hv
end Go.Proofs.Ytbojagkalbfenaa
