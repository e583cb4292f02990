import Derived.Test.YtbojagkalbfenaaL3
namespace Go.Proofs.Ytbojagkalbfenaa
set_option linter.unusedSimpArgs false
open Go.RowKit PIovGather Go.Proofs.YtbojagkalbfenaaW.PrintWords

theorem rslice_l0 (l : List S44) (hok : okP (prs l)) (hl : l.length ≤ 16) (off n : Int) (ho : 0 ≤ off ∧ off ≤ 65536) (hn : 0 ≤ n ∧ n ≤ 65536) : ∀ (c k i : Nat) (pos : Int) (out : List S44), i + c = l.length → c < k → 0 ≤ pos → pos ≤ 4096 * i → out.length ≤ i →
    ∃ r, orpimentref09_Slice.l0 k l off n out pos i = some (r, 0) ∧ prs r = prs out ++ sliceR ((prs l).drop i) pos off n
  | 0, k + 1, i, pos, out, hi, _, h0, h1, _ => by
    have : ¬ ((i : Int) < (l.length : Int)) := by omega
    simp only [orpimentref09_Slice.l0, this, if_false]
    rw [List.drop_eq_nil_of_le (by rw [prs_length]; omega)]
    exact ⟨_, rfl, by simp [sliceR]⟩
  | c + 1, k + 1, i, pos, out, hi, hk, h0, h1, h2 => by
    have hlt : i < l.length := by omega
    have hd := rd_prs l i hlt
    have hb := hok ((rd_T44 l i).f0, (rd_T44 l i).f1) (List.mem_of_mem_drop (by rw [hd]; exact List.mem_cons_self))
    simp only at hb
    have e1 : mx off pos = max off pos := by unfold mx; omega
    have e2 : mn (wrap64 (off + n)) (wrap64 (pos + (rd_T44 l i).f1)) = min (off + n) (pos + (rd_T44 l i).f1) := by
      rw [w64 (x := off + n) (by omega) (by omega), w64 (x := pos + (rd_T44 l i).f1) (by omega) (by omega)]; unfold mn; omega
    simp only [orpimentref09_Slice.l0, show (i : Int) < (l.length : Int) by omega, show (0 : Int) ≤ (i : Int) by omega, if_true, e1, e2]
    rw [w64 (x := (i : Int) + 1) (by omega) (by omega), w64 (x := pos + (rd_T44 l i).f1) (by omega) (by omega), hd]
    simp only [sliceR]
    by_cases g : max off pos < min (off + n) (pos + (rd_T44 l i).f1)
    · rw [if_pos g, if_pos g, if_pos (by omega)]
      rw [w64 (x := (rd_T44 l i).f0 + max off pos) (by omega) (by omega), w64 (x := (rd_T44 l i).f0 + max off pos - pos) (by omega) (by omega), w64 (x := min (off + n) (pos + (rd_T44 l i).f1) - max off pos) (by omega) (by omega)]
      obtain ⟨r, hr, hp⟩ := rslice_l0 l hok hl off n ho hn c k (i + 1) (pos + (rd_T44 l i).f1) (out ++ [⟨(rd_T44 l i).f0 + max off pos - pos, min (off + n) (pos + (rd_T44 l i).f1) - max off pos⟩]) (by omega) (by omega) (by omega) (by omega) (by simp; omega)
      exact ⟨r, hr, by rw [hp]; simp [prs]⟩
    · rw [if_neg g, if_neg g]
      exact rslice_l0 l hok hl off n ho hn c k (i + 1) (pos + (rd_T44 l i).f1) out (by omega) (by omega) (by omega) (by omega) (by omega)

theorem rslice_f (l : List S44) (off n : Int) {k : Nat} (hk : 60 ≤ k) :
    ∃ r, orpimentref09_Slice.f k l off n = some (r, wth (prs l) off n) ∧ prs r = if wth (prs l) off n = 0 then slicedL (prs l) off n else [] := by
  rw [orpimentref09_Slice.f, rlen_f l hk, Option.bind_some, wth]
  by_cases h : chk (prs l) = 0
  · obtain ⟨h1, h2, h3, h4⟩ := chk_zero h
    obtain ⟨m, rfl⟩ : ∃ m, k = m + 1 := ⟨k - 1, by omega⟩
    simp only [h, if_true, orpimentref09_Slice.j0]
    by_cases a : off < 0
    · exact ⟨[], by rw [if_pos (show off < 0 ∨ n < 0 ∨ sumL (prs l) < off ∨ sumL (prs l) - off < n by omega)]; simp [a], by rw [if_pos (show off < 0 ∨ n < 0 ∨ sumL (prs l) < off ∨ sumL (prs l) - off < n by omega)]; simp [prs]⟩
    · by_cases b : n < 0
      · exact ⟨[], by rw [if_pos (show off < 0 ∨ n < 0 ∨ sumL (prs l) < off ∨ sumL (prs l) - off < n by omega)]; simp [a, b], by rw [if_pos (show off < 0 ∨ n < 0 ∨ sumL (prs l) < off ∨ sumL (prs l) - off < n by omega)]; simp [prs]⟩
      · by_cases c : off > sumL (prs l)
        · exact ⟨[], by rw [if_pos (show off < 0 ∨ n < 0 ∨ sumL (prs l) < off ∨ sumL (prs l) - off < n by omega)]; simp [a, b, c], by rw [if_pos (show off < 0 ∨ n < 0 ∨ sumL (prs l) < off ∨ sumL (prs l) - off < n by omega)]; simp [prs]⟩
        · rw [w64 (x := sumL (prs l) - off) (by omega) (by omega)]
          by_cases d : n > sumL (prs l) - off
          · exact ⟨[], by rw [if_pos (show off < 0 ∨ n < 0 ∨ sumL (prs l) < off ∨ sumL (prs l) - off < n by omega)]; simp [a, b, c, d], by rw [if_pos (show off < 0 ∨ n < 0 ∨ sumL (prs l) < off ∨ sumL (prs l) - off < n by omega)]; simp [prs]⟩
          · obtain ⟨r, hr, hp⟩ := rslice_l0 l h1 (by rw [← prs_length]; exact h2) off n (by omega) (by omega) l.length m 0 0 [] (by omega) (by rw [prs_length] at h2; omega) (by omega) (by omega) (by simp)
            refine ⟨r, ?_, ?_⟩
            · rw [show ((0 : Nat) : Int) = 0 from rfl] at hr
              rw [if_neg a, if_neg b, if_neg c, if_neg (show ¬ (off < 0 ∨ n < 0 ∨ sumL (prs l) < off ∨ sumL (prs l) - off < n) by omega)]
              simp [d, hr]
            · rw [if_neg (show ¬ (off < 0 ∨ n < 0 ∨ sumL (prs l) < off ∨ sumL (prs l) - off < n) by omega), if_pos rfl, hp, List.drop_zero, sliceR_slicedL h1 (by omega) (by omega)]
              simp [prs]
  · simp only [h, if_false]
    exact ⟨[], rfl, by simp [prs]⟩
end Go.Proofs.Ytbojagkalbfenaa
