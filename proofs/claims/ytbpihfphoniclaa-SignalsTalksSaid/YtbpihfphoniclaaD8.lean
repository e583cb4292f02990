/- A small call (19). -/
import Derived.Test.YtbpihfphoniclaaD7
namespace Go.Proofs.Ytbpihfphoniclaa
open Go.RowKit
set_option linter.unusedVariables false
theorem heap3 (w : World) (a b c : Obj) : Below w.heap.size w (((w.alloc a).alloc b).alloc c) ∧ (((w.alloc a).alloc b).alloc c).heap[w.heap.size + 1]? = some b :=
  ⟨(heap2 w a b).2.2.alloc (heap2 w a b).2.2.size c, keep_alloc (heap2 w a b).2.1 c⟩
theorem umod (k : Int) (m : Int) (h0 : 0 < m) (h1 : m < 9223372036854775807) : 0 ≤ (IntKind.u64.wrap k).tmod m ∧ (IntKind.u64.wrap k).tmod m < m := by
  have e : IntKind.u64.wrap k = k % 18446744073709551616 := by simp [IntKind.wrap, IntKind.bits, IntKind.signed]
  have h2 : 0 ≤ IntKind.u64.wrap k := by rw [e]; omega
  exact ⟨Int.tmod_nonneg m h2, Int.tmod_lt_of_pos (IntKind.u64.wrap k) h0⟩
set_option maxRecDepth 100000 in
set_option maxHeartbeats 8000000 in
theorem small_calls (k th p s n : Int) (b : Nat) (v : Int) (w : World) : Calls Try.prog 19 #[.agg (opc k th p s n b v)] w fun e w' => (∃ K T P G N V, e = .returned (.agg (opc K T P G N b V)) ∧ 2 ≤ K ∧ K < 8) ∧ Below w.heap.size w w' := by
  obtain ⟨a0, a1⟩ := umod k 6 (by omega) (by omega)
  obtain ⟨b0, b1⟩ := umod th 5 (by omega) (by omega)
  obtain ⟨c0, c1⟩ := umod p 2 (by omega) (by omega)
  obtain ⟨d0, d1⟩ := umod n 3 (by omega) (by omega)
  obtain ⟨e0, e1⟩ := umod s 8 (by omega) (by omega)
  obtain ⟨q1, h1⟩ : ∃ q, (IntKind.u64.wrap k).tmod 6 = q := ⟨_, rfl⟩
  obtain ⟨q2, h2⟩ : ∃ q, (IntKind.u64.wrap th).tmod 5 = q := ⟨_, rfl⟩
  obtain ⟨q3, h3⟩ : ∃ q, (IntKind.u64.wrap p).tmod 2 = q := ⟨_, rfl⟩
  obtain ⟨q4, h4⟩ : ∃ q, (IntKind.u64.wrap n).tmod 3 = q := ⟨_, rfl⟩
  obtain ⟨q5, h5⟩ : ∃ q, (IntKind.u64.wrap s).tmod 8 = q := ⟨_, rfl⟩
  rw [h1] at a0 a1
  rw [h2] at b0 b1
  rw [h3] at c0 c1
  rw [h4] at d0 d1
  rw [h5] at e0 e1
  obtain ⟨K, hK⟩ : ∃ K, 2 + q1 = K := ⟨_, rfl⟩
  have k0 : 2 ≤ K := by omega
  have k1 : K < 8 := by omega
  have HK := Lib.hid (And.intro k0 k1)
  have e5 : q5 = 0 ∨ q5 = 1 ∨ q5 = 2 ∨ q5 = 3 ∨ q5 = 4 ∨ q5 = 5 ∨ q5 = 6 ∨ q5 = 7 := by omega
  clear e0 e1
  by_cases h44 : K = 4
  · have q12 : q1 = 2 := by omega
    subst h44
    by_cases hv : v.tmod 3 = 0
    · rcases e5 with rfl | rfl | rfl | rfl | rfl | rfl | rfl | rfl
      all_goals
        go_enter Try.func19, Try.ntmps19
        unfold opc
        go_wp2
        refine bodyPost_ret (results_cell_row rfl _ _ (w.heap.size + 1) 49 _ (0, 0) _ rfl (heap3 w _ _ _).2 Try.underlying49 rfl (by kernel_rfl)) rfl ?_
        exact ⟨⟨_, _, _, _, _, _, rfl, HK.out.1, HK.out.2⟩, (heap3 w _ _ _).1⟩
    · have hv2 : (v.tmod 3 == 0) = false := by simpa using hv
      rcases e5 with rfl | rfl | rfl | rfl | rfl | rfl | rfl | rfl
      all_goals
        go_enter Try.func19, Try.ntmps19
        unfold opc
        go_wp2
        refine bodyPost_ret (results_cell_row rfl _ _ (w.heap.size + 1) 49 _ (0, 0) _ rfl (heap3 w _ _ _).2 Try.underlying49 rfl (by kernel_rfl)) rfl ?_
        exact ⟨⟨_, _, _, _, _, _, rfl, HK.out.1, HK.out.2⟩, (heap3 w _ _ _).1⟩
  · have h4b : (K == 4) = false := by simpa using h44
    rcases e5 with rfl | rfl | rfl | rfl | rfl | rfl | rfl | rfl
    all_goals
      go_enter Try.func19, Try.ntmps19
      unfold opc
      go_wp2
      refine bodyPost_ret (results_cell_row rfl _ _ (w.heap.size + 1) 49 _ (0, 0) _ rfl (heap3 w _ _ _).2 Try.underlying49 rfl (by kernel_rfl)) rfl ?_
      exact ⟨⟨_, _, _, _, _, _, rfl, HK.out.1, HK.out.2⟩, (heap3 w _ _ _).1⟩
end Go.Proofs.Ytbpihfphoniclaa
