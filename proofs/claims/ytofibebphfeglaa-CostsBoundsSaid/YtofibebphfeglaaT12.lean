import Derived.Test.YtofibebphfeglaaT11
namespace Go.Proofs.Ytofibebphfeglaa
open Go.RowKit
attribute [local go_sem] ints_get ints_size ints_getElem

theorem own_read {w : World} {base n : Nat} {e : TypeId} {v : Value} {xs : List Int} (h : w.ownsRow base e 1 v n (row xs)) :
    ∃ A c, v = .slice A n c ∧ (0 < n → ∃ g, A = some ⟨g, 0, none⟩ ∧ g < w.heap.size ∧ ∀ j, j < n → w.cell? ⟨g, j, none⟩ = some (.int .i64 (xs.getD j 0))) := by
  rcases Nat.eq_zero_or_pos n with h0 | h0
  · rcases h.2 with ⟨rfl, h1⟩ | ⟨g, cap, cur, rfl, _⟩
    · exact ⟨none, 0, by rw [h1], fun hp => absurd hp (by omega)⟩
    · exact ⟨_, cap, rfl, fun hp => absurd hp (by omega)⟩
  · obtain ⟨g, cap, rfl, hg, hc⟩ := own_open h h0
    exact ⟨_, cap, rfl, fun _ => ⟨g, rfl, hg, hc⟩⟩

theorem secL_small {s c : Int} {l : List Int} {n : Int} (h : ¬ (5000 < n ∧ n ≤ 100000)) : (secL s c l n).length ≤ 5000 := by
  unfold secL
  split
  · rename_i h1
    simp only [Bool.and_eq_true, decide_eq_true_eq] at h1
    obtain ⟨⟨hs, -⟩, -⟩ := okT_c h1.1
    rw [secs_len]
    have := secQ_le s n hs (by omega)
    omega
  · simp

set_option maxHeartbeats 1000000 in
set_option maxRecDepth 100000 in
theorem sections_law (s c : Int) (l : List Int) (hl : l.length = 24) (n d : Int) (w : World) (hn : ¬ (5000 < n ∧ n ≤ 100000)) :
    Calls Try.prog 4 #[.agg (ints (s :: c :: l)), .int .i64 n, .int .i64 d] w fun e w' => e = .returned (.bool true) ∧ Below w.heap.size w w' := by
  have H := Lib.hid hl
  have HS := Lib.hid (secL_small (s := s) (c := c) (l := l) hn)
  have hn' : n ≤ 5000 ∨ (5000 < n ∧ 100000 < n) := by omega
  clear hl hn
  have HF := Lib.hid (heap_alloc_new w (.cells (ints (s :: c :: l)) 24))
  have HW := Lib.hid ((Below.refl w.heap.size w).alloc (Nat.le_refl _) (.cells (ints (s :: c :: l)) 24))
  rcases hn' with hn | ⟨hn, hn2⟩
  all_goals
    go_enter Try.func4, Try.ntmps4
    go_wp2_with (first
      | ((with_reducible change wpList _ _ _ (⟨_, .load 24 (.tmp 3), _, _, _, _⟩ :: _) _ _); refine wpList_load_cells rfl 24 (.tmp 3) rfl ⟨w.heap.size, 0, none⟩ rfl (ints (s :: c :: l)) _ (cells_of_heap HF.out) Try.underlying24 rfl size24 (by rw [ints_size]; simp only [List.length_cons, H.out]) ?_)
      | (go_at_call 15; refine (sections_calls s c l H.out _ _).mono ?_; rintro e w2 ⟨va, rfl, howna, hb2⟩; obtain ⟨A, ca, rfl, hca⟩ := own_read howna; replace HF := Lib.hid (heap_kept HF.out hb2); replace HW := Lib.hid (below_then' HW.out hb2); have HA := Lib.hid hca; clear hb2 hca howna)
      | (go_at_call 9; refine (from_calls s c l H.out _).mono ?_; rintro e w3 ⟨rfl, hb3⟩; replace HF := Lib.hid (heap_kept HF.out hb3); replace HW := Lib.hid (below_then' HW.out hb3))
      | (go_at_call 16; refine (rsections_calls s c l H.out _ _).mono ?_; rintro e w4 ⟨vb, rfl, hownb, hb4⟩; obtain ⟨B, cb, rfl, hcb⟩ := own_read hownb; replace HF := Lib.hid (heap_kept HF.out hb4); replace HW := Lib.hid (below_then' HW.out hb4); have HBB := Lib.hid hcb; have HAB := Lib.hid (below_then' hb3 hb4); clear hb3 hb4 hcb hownb))
    have hlen := HS.out
    obtain ⟨m, hm⟩ : ∃ m, m = (secL s c l n).length := ⟨_, rfl⟩
    rw [← hm] at HA HBB hlen ⊢
    have HM := Lib.hid hm
    clear hm
    go_loopw [11] (fun i wr => ∃ k : Nat, k ≤ m ∧ i = .int .i64 k ∧ Hid (Below w4.heap.size w4 wr)) (fun i _ => m - (intOf i).toNat)
    case atStart => exact ⟨0, by omega, rfl, Lib.hid (Below.refl _ _)⟩
    case round =>
      obtain ⟨k, hk, rfl, hb⟩ := hrel
      by_cases hlt : k < m
      · obtain ⟨ga, rfl, hga, hcella⟩ := HA.out (by omega)
        obtain ⟨gb, rfl, hgb, hcellb⟩ := HBB.out (by omega)
        have hx : wr.cell? ⟨ga, k, none⟩ = some (.int .i64 ((secL s c l n).getD k 0)) := by
          rw [hb.out.cell (Nat.lt_of_lt_of_le hga HAB.out.size), HAB.out.cell hga]; exact hcella k hlt
        have hy : wr.cell? ⟨gb, k, none⟩ = some (.int .i64 ((secL s c l n).getD k 0)) := by
          rw [hb.out.cell hgb]; exact hcellb k hlt
        clear hcella hcellb
        have hx' : ∀ d os, (Sort.grow (redrawn wr d) os).cell? ⟨ga, k, none⟩ = some (.int .i64 ((secL s c l n).getD k 0)) := fun d os => cell_regrown hx d os
        have hy' : ∀ d os, (Sort.grow (redrawn wr d) os).cell? ⟨gb, k, none⟩ = some (.int .i64 ((secL s c l n).getD k 0)) := fun d os => cell_regrown hy d os
        clear hx hy
        go_wp2_with fail
        refine wp_region_quiet_below (by kernel_rfl) (by kernel_rfl) ?_
        repeat (quiet_step (fail))
        refine wpQuiet_nil ?_
        intro w5 hw5
        have hb5 := Lib.hid (below_of_regrown hw5)
        clear hw5 hx' hy'
        go_wp2
        go_roundw
        case rel => exact ⟨k + 1, by omega, by go_num, Lib.hid (below_then' hb.out hb5.out)⟩
        case measure => simp [intOf]; omega
      · obtain rfl : k = m := by omega
        go_wp2_with fail
        replace HF := Lib.hid (heap_kept HF.out hb.out)
        refine wp_region_quiet_below (by kernel_rfl) (by kernel_rfl) ?_
        repeat (first
          | ((with_reducible change wpQuiet _ _ _ _ (⟨_, .load 24 (.tmp 3), _, _, _, _⟩ :: _) _); refine wpQuiet_load_cells rfl 24 (.tmp 3) rfl ⟨w.heap.size, 0, none⟩ rfl (ints (s :: c :: l)) _ (cells_of_heap HF.out) Try.underlying24 rfl size24 (by rw [ints_size]; simp only [List.length_cons, H.out]) ?_)
          | quiet_step (first
              | (go_at_call 17; exact (pre_calls s c l H.out _ _ _).regrown_of)
              | (go_at_call 18; exact (rpre_calls s c l H.out _ _ _).regrown_of)
              | (go_at_call 9; exact (from_calls s c l H.out _).regrown_of)
              | (go_at_call 19; exact (longest_calls s c l H.out _).regrown_of)
              | (go_at_call 20; exact (rlongest_calls s c l H.out _).regrown_of)
              | (go_at_call 14; exact (awake_calls _).regrown_of)))
        refine wpQuiet_nil ?_
        intro w5 hw5
        have hb5 := Lib.hid (below_of_regrown hw5)
        clear hw5
        go_wp2
        go_ret
        exact ⟨rfl, below_then' HW.out (below_then' hb.out hb5.out)⟩

set_option maxRecDepth 100000 in
theorem sections_early (s c : Int) (l : List Int) (n d : Int) (w : World) (hn : 5000 < n ∧ n ≤ 100000) :
    Calls Try.prog 4 #[.agg (ints (s :: c :: l)), .int .i64 n, .int .i64 d] w fun e w' => e = .returned (.bool true) ∧ Below w.heap.size w w' := by
  obtain ⟨h1, h2⟩ := hn
  have HW := Lib.hid ((Below.refl w.heap.size w).alloc (Nat.le_refl _) (.cells (ints (s :: c :: l)) 24))
  go_enter Try.func4, Try.ntmps4
  go_wp2_with (go_at_call 14; refine (awake_calls _).mono ?_; rintro e w2 ⟨rfl, hb2⟩)
  go_ret
  exact ⟨rfl, below_then' HW.out hb2⟩

theorem sections_all (s0 c0 : Int) (l0 : List Int) (a1 a2 : Int) (w : World) (hl0 : l0.length = 24) (_ : (Lit.int .i64 a1).wf = true) (_ : (Lit.int .i64 a2).wf = true) :
    Calls Try.prog 4 #[.agg (ints (s0 :: c0 :: l0)), .int .i64 a1, .int .i64 a2] w fun e w' => e = .returned (.bool true) ∧ Below w.heap.size w w' := by
  by_cases hn : 5000 < a1 ∧ a1 ≤ 100000
  · exact sections_early s0 c0 l0 a1 a2 w hn
  · exact sections_law s0 c0 l0 hl0 a1 a2 w hn
end Go.Proofs.Ytofibebphfeglaa
