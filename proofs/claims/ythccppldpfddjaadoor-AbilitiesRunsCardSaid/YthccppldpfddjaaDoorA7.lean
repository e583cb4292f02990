/- slices.Insert of one range. -/
import Derived.Test.YthccppldpfddjaaDoorA6
namespace Go.Proofs.YthccppldpfddjaaDoor
open Go.RowKit
set_option linter.unusedVariables false
theorem Rw.at_end {w : World} {B : Nat} {v : Value} {l : List Rg} {w0 : World} (h : w.grownBy w0 v.ownBlock) (hown : ∀ g, v.ownBlock = some g → B ≤ g) (hB : B ≤ w.heap.size) : Below B w w0 :=
  (Below.refl B w).grown h hB hown
set_option maxHeartbeats 4000000 in
set_option maxRecDepth 100000 in
theorem insert_end (B : Nat) (v : Value) (l : List Rg) (r : Rg) (vb : Nat) (w : World) (hl : Ls w 43 v l) (hown : ∀ g, v.ownBlock = some g → B ≤ g) (hB : B ≤ w.heap.size)
    (hvb : w.heap[vb]? = some (.cells #[.int .i64 r.1, .int .i64 r.2] 43 (0, 0))) (hlen : l.length ≤ 1000) :
    Calls Tryd.prog 111 #[v, .int .i64 l.length, .slice (some ⟨vb, 0, none⟩) 1 1] w fun e w' => ∃ v', e = .returned v' ∧ Ls w' 43 v' (l ++ [r]) ∧ (∀ g, v'.ownBlock = some g → B ≤ g) ∧ Below B w w' := by
  obtain ⟨A, c, rfl, hc, hc2, hA, -⟩ := Rw.form hl
  obtain ⟨i0, hi0, hz0, hz1, hz2⟩ := info_parts info43
  have hA2 : A = none ∨ ∃ g, A = some ⟨g, 0, none⟩ := by
    rcases hl.2 with ⟨h2, _⟩ | ⟨g, cap, cur, h2, _⟩
    · exact .inl (by injection h2)
    · exact .inr ⟨g, by injection h2⟩
  have HN := Lib.hid (show ∀ ad, some (⟨vb, 0, none⟩ : Addr) = some ad → ∀ j u, (pcells [r])[j]? = some u → w.cell? (ad.add j) = some u from by
    rintro ad h j u hj
    cases h
    rw [add_at, cell_of_row _ _ _ _ _ _ hvb]
    simpa [pcells] using hj)
  have HL := Lib.hid (And.intro hl (And.intro hown hB))
  clear hl hown hB hvb
  have fin : ∀ v' w1, Rw w1 43 2 v' (l.length + 1) (pcells l ++ pcells [r]) → w.grownBy w1 (Value.slice A l.length c).ownBlock → (v'.ownBlock = (Value.slice A l.length c).ownBlock ∨ v'.ownBlock = some w.heap.size) →
      Ls w1 43 v' (l ++ [r]) ∧ (∀ g, v'.ownBlock = some g → B ≤ g) ∧ Below B w w1 := by
    intro v' w1 h1 h2 h3
    refine ⟨?_, fun g hg => ?_, (Below.refl B w).grown h2 HL.out.2.2 HL.out.2.1⟩
    · show Rw w1 43 2 v' (l ++ [r]).length (pcells (l ++ [r]))
      rw [pcells_append, List.length_append]
      exact h1
    · rcases h3 with e | e
      · exact HL.out.2.1 g (by rw [← e]; exact hg)
      · rw [e] at hg; cases hg; exact HL.out.2.2
  have HF := Lib.hid fin
  have g0 : (l.length : Int) ≤ c := by omega
  have g1 : (c : Int) ≤ 9223372036854775807 := by unfold maxLen at hc2; omega
  clear fin
  rcases hA2 with rfl | ⟨g, rfl⟩
  · obtain ⟨e1, e2⟩ := hA rfl
    subst e2
    go_enter Tryd.func111, Tryd.ntmps111
    go_wp2_with (at_builtin; refine wpList_append_rw _ rfl (.tmp 23) (.tmp 24) 36 rfl 43 i0 (.agg #[.int .i64 0, .int .i64 0]) 2 16 Tryd.underlying36 hi0 hz0 hz1 hz2 rfl (by decide) _ _ _ rfl HL.out.1 (some ⟨vb, 0, none⟩) 1 1 (pcells [r]) rfl rfl HN.out (by simp) (pcells_one [r]) (by unfold maxLen; omega) (by omega) ?_; intro v' w1 h1 h2 h3 h4; have H9 := Lib.hid (HF.out v' w1 h1 h2 h3); clear h1 h2 h3 h4)
    all_goals (go_ret; exact ⟨_, rfl, H9.out⟩)
  · clear hA
    go_enter Tryd.func111, Tryd.ntmps111
    go_wp2_with (at_builtin; refine wpList_append_rw _ rfl (.tmp 23) (.tmp 24) 36 rfl 43 i0 (.agg #[.int .i64 0, .int .i64 0]) 2 16 Tryd.underlying36 hi0 hz0 hz1 hz2 rfl (by decide) _ _ _ rfl HL.out.1 (some ⟨vb, 0, none⟩) 1 1 (pcells [r]) rfl rfl HN.out (by simp) (pcells_one [r]) (by unfold maxLen; omega) (by omega) ?_; intro v' w1 h1 h2 h3 h4; have H9 := Lib.hid (HF.out v' w1 h1 h2 h3); clear h1 h2 h3 h4)
    all_goals (go_ret; exact ⟨_, rfl, H9.out⟩)
end Go.Proofs.YthccppldpfddjaaDoor
