/- The reference's label. -/
import Derived.Test.YtofibebphfeglaaDoorX9
namespace Go.Proofs.YtofibebphfeglaaDoor
open Go.RowKit
set_option linter.unusedVariables false
set_option maxRecDepth 100000 in
theorem label_calls (i : Nat) (hi : i < 26) (w : World) : Calls Tryd.prog 31 #[.int .i64 i] w fun e w' => e = .returned (.string ⟨(lab.getD i []).toArray⟩) ∧ Below w.heap.size w w' := by
  rcases (by omega : i = 0 ∨ i = 1 ∨ 2 ≤ i) with rfl | rfl | h2
  · go_enter Tryd.func31, Tryd.ntmps31
    go_wp2_with fail
    go_ret
    exact ⟨rfl, Below.refl _ _⟩
  · go_enter Tryd.func31, Tryd.ntmps31
    go_wp2_with fail
    go_ret
    exact ⟨rfl, Below.refl _ _⟩
  · have c3 : (strs nm)[i - 2]? = some (.string ⟨(lab.getD i []).toArray⟩) := by
      obtain ⟨k, rfl⟩ : ∃ k, i = k + 2 := ⟨i - 2, by omega⟩
      have h := strs_cell w k (by omega)
      rw [cell_of_row _ _ _ _ _ _ (heap_alloc_new w _)] at h
      exact h
    have h0 : ¬ (i : Int) = 0 := by omega
    have h1 : ¬ (i : Int) = 1 := by omega
    have HB := Lib.hid ((Below.refl w.heap.size w).alloc (Nat.le_refl _) (.cells (strs nm) 9))
    generalize lab.getD i [] = nm0 at *
    go_enter Tryd.func31, Tryd.ntmps31
    go_wp2_with (go_at_call 20; refine (names_calls _).mono ?_; rintro e w1 ⟨rfl, rfl⟩)
    go_ret
    exact ⟨rfl, HB.out⟩
end Go.Proofs.YtofibebphfeglaaDoor
