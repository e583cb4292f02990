/- SignalsNil. -/
import Derived.Test.YtbpihfphoniclaaD2
import Derived.Test.YtbpihfphoniclaaD3
import Derived.Test.YtbpihfphoniclaaD4
namespace Go.Proofs.Ytbpihfphoniclaa
open Go.RowKit
set_option linter.unusedVariables false
theorem calln (k th p s n : Int) (b : Nat) (v : Int) (w : World) (h0 : 0 ≤ k) (h1 : k < 8) :
    Calls Try.prog 18 #[.pointer none, .agg (opc k th p s n b v)] w fun e w' => e = .returned (.agg (resc 0 0 0 false 0 0 0 (.slice none 0 0) (if 6 ≤ k then 0 else 35))) ∧ Below w.heap.size w w' := by
  obtain rfl | rfl | rfl | rfl | rfl | rfl | rfl | rfl : k = 0 ∨ k = 1 ∨ k = 2 ∨ k = 3 ∨ k = 4 ∨ k = 5 ∨ k = 6 ∨ k = 7 := by omega
  · exact calln_0 th p s n b v w
  · exact calln_1 th p s n b v w
  · exact calln_2 th p s n b v w
  · exact calln_3 th p s n b v w
  · exact calln_4 th p s n b v w
  · exact calln_5 th p s n b v w
  · exact calln_6 th p s n b v w
  · exact calln_7 th p s n b v w
theorem mod_small (k : Int) (m : Int) (h0 : 0 < m) (h1 : m < 9223372036854775807) : 0 ≤ wrap64 ((IntKind.u64.wrap k).tmod m) ∧ wrap64 ((IntKind.u64.wrap k).tmod m) < m := by
  have e : IntKind.u64.wrap k = k % 18446744073709551616 := by simp [IntKind.wrap, IntKind.bits, IntKind.signed]
  have h2 : 0 ≤ IntKind.u64.wrap k := by rw [e]; omega
  have h3 := Int.tmod_nonneg m h2
  have h4 := Int.tmod_lt_of_pos (IntKind.u64.wrap k) h0
  rw [IntWalk.wrap64_in _ (by omega)]
  exact ⟨h3, h4⟩
set_option maxRecDepth 100000 in
set_option maxHeartbeats 1000000 in
theorem nil_law (k th p s n : Int) (b : Nat) (v : Int) (w : World) : Calls Try.prog 9 #[.agg (opc k th p s n b v)] w fun e w' => e = .returned (.bool true) ∧ Below w.heap.size w w' := by
  obtain ⟨q0, q1⟩ := mod_small k 8 (by omega) (by omega)
  go_enter Try.func9, Try.ntmps9
  unfold opc
  go_wp2_with fail
  obtain ⟨q, hq⟩ : ∃ q, wrap64 ((IntKind.u64.wrap k).tmod 8) = q := ⟨_, rfl⟩
  rw [hq] at q0 q1 ⊢
  clear hq
  have hn : (w.alloc (.cells (opc q th p s n b v) 49)).heap[w.heap.size]? = some (.cells (opc q th p s n b v) 49 (0, 0)) := heap_alloc_new w _
  have HB0 : Hid (Below w.heap.size w (w.alloc (.cells (opc q th p s n b v) 49))) := Lib.hid ((Below.refl _ _).alloc (Nat.le_refl _) _)
  refine (calln q th p s n b v _ q0 q1).mono ?_
  rintro e w1 ⟨rfl, hb⟩
  have hn1 := (hb.block _ (Array.getElem?_eq_some_iff.1 hn).1).trans hn
  have HB1 := Lib.hid (below_then' HB0.out hb)
  have HN := Lib.hid hn1
  have c0 : w1.cell? ⟨w.heap.size, 0, none⟩ = some (.int .i64 q) := by rw [cell_of_row _ _ _ _ _ _ hn1]; rfl
  have c1 : w1.cell? ⟨w.heap.size, 1, none⟩ = some (.int .i64 th) := by rw [cell_of_row _ _ _ _ _ _ hn1]; rfl
  have hlt : w.heap.size < w1.heap.size := (Array.getElem?_eq_some_iff.1 hn1).1
  clear hb hn hn1
  unfold resc
  have HB1' : Hid (∀ o, Below w.heap.size w (w1.alloc o)) := Lib.hid fun o => HB1.out.alloc (by omega) o
  have HN' : Hid (∀ o, (w1.alloc o).heap[w.heap.size]? = some (.cells (opc q th p s n b v) 49 (0, 0))) := Lib.hid fun o => keep_alloc HN.out o
  by_cases h6 : 6 ≤ q
  · rw [if_pos h6]
    go_wp2_with (first | (go_at_call 21; refine (pend_nil th _).mono ?_; rintro e w2 ⟨rfl, rfl⟩) | fail)
    refine (equal_calls 0 0 0 false 0 0 0 0 _ _ [] _ (wk_nil _) (wk_nil _)).mono ?_
    rintro e w2 ⟨rfl, hb⟩
    have hn2 := (hb.block _ (Array.getElem?_eq_some_iff.1 (HN'.out _)).1).trans (HN'.out _)
    have HB2 := Lib.hid (below_then' (HB1'.out _) hb)
    have d1 : w2.cell? ⟨w.heap.size, 1, none⟩ = some (.int .i64 th) := by rw [cell_of_row _ _ _ _ _ _ hn2]; rfl
    clear hb hn2
    go_wp2_with (go_at_call 26; refine (got_nil th _).mono ?_; rintro e w3 ⟨rfl, rfl⟩)
    refine (awake_calls w2).mono ?_
    rintro e w3 ⟨rfl, hb⟩
    have HB3 := Lib.hid (below_then' HB2.out hb)
    clear hb
    go_wp2
    go_ret
    exact ⟨rfl, HB3.out⟩
  · rw [if_neg h6]
    go_wp2_with (first | (go_at_call 21; refine (pend_nil th _).mono ?_; rintro e w2 ⟨rfl, rfl⟩) | fail)
    refine (equal_calls 0 0 0 false 0 0 0 35 _ _ [] _ (wk_nil _) (wk_nil _)).mono ?_
    rintro e w2 ⟨rfl, hb⟩
    have hn2 := (hb.block _ (Array.getElem?_eq_some_iff.1 (HN'.out _)).1).trans (HN'.out _)
    have HB2 := Lib.hid (below_then' (HB1'.out _) hb)
    have d1 : w2.cell? ⟨w.heap.size, 1, none⟩ = some (.int .i64 th) := by rw [cell_of_row _ _ _ _ _ _ hn2]; rfl
    clear hb hn2
    go_wp2_with (go_at_call 26; refine (got_nil th _).mono ?_; rintro e w3 ⟨rfl, rfl⟩)
    refine (awake_calls w2).mono ?_
    rintro e w3 ⟨rfl, hb⟩
    have HB3 := Lib.hid (below_then' HB2.out hb)
    clear hb
    go_wp2
    go_ret
    exact ⟨rfl, HB3.out⟩
end Go.Proofs.Ytbpihfphoniclaa
