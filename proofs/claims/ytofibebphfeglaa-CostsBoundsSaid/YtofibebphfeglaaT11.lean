import Derived.Test.YtofibebphfeglaaT10
namespace Go.Proofs.Ytofibebphfeglaa
open Go.RowKit
attribute [local go_sem] ints_get ints_size ints_getElem

theorem eq_defs (w : World) : (binOp .eql 29 (.agg (ints (4 :: 1 :: defs))) (.agg (ints (4 :: 1 :: defs)))).run Try.prog w = .ok (.bool true) w := by kernel_rfl

set_option maxHeartbeats 800000 in
set_option maxRecDepth 100000 in
theorem values_walk (s c : Int) (l : List Int) (hl : l.length = 24) (op b : Int) (w : World) :
    Calls Try.prog 3 #[.agg (ints (s :: c :: l)), .int .i64 op, .int .i64 b] w fun e w' => e = .returned (.bool true) ∧ Below w.heap.size w w' := by
  have H := Lib.hid hl
  clear hl
  have HF := Lib.hid (heap_alloc_new w (.cells (ints (s :: c :: l)) 24))
  have HW := Lib.hid ((Below.refl w.heap.size w).alloc (Nat.le_refl _) (.cells (ints (s :: c :: l)) 24))
  have heq := eq_defs
  go_enter Try.func3, Try.ntmps3
  go_wp2_with (first
    | ((with_reducible change wpList _ _ _ (⟨_, .load 24 (.tmp 3), _, _, _, _⟩ :: _) _ _); refine wpList_load_cells rfl 24 (.tmp 3) rfl ⟨w.heap.size, 0, none⟩ rfl (ints (s :: c :: l)) _ (cells_of_heap HF.out) Try.underlying24 rfl size24 (by rw [ints_size]; simp only [List.length_cons, H.out]) ?_)
    | (go_at_call 7; refine (cost_calls s c l H.out _ _ _).mono ?_; rintro e w2 ⟨rfl, hb2⟩; replace HF := Lib.hid (heap_kept HF.out hb2); replace HW := Lib.hid (below_then' HW.out hb2); clear hb2)
    | (go_at_call 9; refine (from_calls s c l H.out _).mono ?_; rintro e w3 ⟨rfl, hb3⟩; replace HF := Lib.hid (heap_kept HF.out hb3); replace HW := Lib.hid (below_then' HW.out hb3); clear hb3)
    | (go_at_call 8; refine (rcost_calls s c l H.out _ _ _).mono ?_; rintro e w4 ⟨rfl, hb4⟩; replace HF := Lib.hid (heap_kept HF.out hb4); replace HW := Lib.hid (below_then' HW.out hb4); clear hb4))
  refine wp_region_quiet_below (by kernel_rfl) (by kernel_rfl) ?_
  repeat (first
    | ((with_reducible change wpQuiet _ _ _ _ (⟨_, .load 24 (.tmp 3), _, _, _, _⟩ :: _) _); refine wpQuiet_load_cells rfl 24 (.tmp 3) rfl ⟨w.heap.size, 0, none⟩ rfl (ints (s :: c :: l)) _ (cells_of_heap HF.out) Try.underlying24 rfl size24 (by rw [ints_size]; simp only [List.length_cons, H.out]) ?_)
    | quiet_step (first
        | (go_at_call 10; exact (check_calls s c l H.out _).regrown_of)
        | (go_at_call 11; exact (rcheck_calls s c l H.out _).regrown_of)
        | (go_at_call 9; first | (with_reducible exact (from_calls s c l H.out _).regrown_of) | (with_reducible exact (from_calls 4 1 defs rfl _).regrown_of))
        | (go_at_call 12; exact (default_calls _).regrown_of)
        | (go_at_call 13; exact (rdefault_calls _).regrown_of)
        | (go_at_call 14; exact (awake_calls _).regrown_of)))
  refine wpQuiet_nil ?_
  intro w5 hw5
  have hb5 := Lib.hid (below_of_regrown hw5)
  clear hw5
  go_wp2
  go_ret
  exact ⟨rfl, below_then' HW.out hb5.out⟩
theorem values_all (s0 c0 : Int) (l0 : List Int) (a1 a2 : Int) (w : World) (hl0 : l0.length = 24) (_ : (Lit.int .i64 a1).wf = true) (_ : (Lit.int .i64 a2).wf = true) :
    Calls Try.prog 3 #[.agg (ints (s0 :: c0 :: l0)), .int .i64 a1, .int .i64 a2] w fun e w' => e = .returned (.bool true) ∧ Below w.heap.size w w' :=
  values_walk s0 c0 l0 hl0 a1 a2 w
end Go.Proofs.Ytofibebphfeglaa
