import Derived.Test.YtbpihfphoniclaaD0
namespace Go.Proofs.Ytbpihfphoniclaa
open Go.RowKit
set_option linter.unusedVariables false
set_option maxHeartbeats 2000000 in
set_option maxRecDepth 100000 in
theorem calln_0 (th p s n : Int) (b : Nat) (v : Int) (w : World) :
    Calls Try.prog 18 #[.pointer none, .agg (opc 0 th p s n b v)] w fun e w' => e = .returned (.agg #[.int .i64 0, .int .u64 0, .int .i64 0, .bool false, .int .i64 0, .int .i64 0, .int .i64 0, .slice none 0 0, .int .i64 35]) ∧ Below w.heap.size w w' := by
  have hX := heap22 w (.cells (opc 0 th p s n b v) 49) (.cells (resc 0 0 0 false 0 0 0 (.slice none 0 0) 0) 52)
  have HCON := Lib.hid (start_nil th p ((w.alloc (.cells (opc 0 th p s n b v) 49)).alloc (.cells (resc 0 0 0 false 0 0 0 (.slice none 0 0) 0) 52)))
  have HB := Lib.hid hX
  clear hX
  unfold opc resc at HCON
  go_enter Try.func18, Try.ntmps18
  unfold opc
  go_wp2_with (go_at_call 12; refine HCON.out.mono ?_; rintro e w1 ⟨rfl, hA⟩; have HD := Lib.hid (donen HB.out.1 (below_eq hA) HB.out.2); clear hA; obtain ⟨z0, z1, z2, z3, z4, z5, z6, z7, z8⟩ := HD.out.nine; have y0 := frozen_of_cells HD.out.row 0; have y1 := frozen_of_cells HD.out.row 1; have y2 := frozen_of_cells HD.out.row 2; have y3 := frozen_of_cells HD.out.row 3; have y4 := frozen_of_cells HD.out.row 4; have y5 := frozen_of_cells HD.out.row 5; have y6 := frozen_of_cells HD.out.row 6; have y7 := frozen_of_cells HD.out.row 7; have y8 := frozen_of_cells HD.out.row 8)
  have hfin := (HD.out.set (free_nil (by omega)) 8 (.int .i64 35)).all (free_nil (by omega)) (.int .i64 0) (.int .u64 0) (.int .i64 0) (.bool false) (.int .i64 0) (.int .i64 0) (.int .i64 0) (.slice none 0 0) (.int .i64 35)
  refine bodyPost_ret (results_cell_row rfl _ _ (w.heap.size + 1) 52 _ (0, 0) _ rfl hfin.row Try.underlying52 rfl (by kernel_rfl)) rfl ?_
  exact ⟨rfl, hfin.q⟩
set_option maxHeartbeats 2000000 in
set_option maxRecDepth 100000 in
theorem calln_1 (th p s n : Int) (b : Nat) (v : Int) (w : World) :
    Calls Try.prog 18 #[.pointer none, .agg (opc 1 th p s n b v)] w fun e w' => e = .returned (.agg #[.int .i64 0, .int .u64 0, .int .i64 0, .bool false, .int .i64 0, .int .i64 0, .int .i64 0, .slice none 0 0, .int .i64 35]) ∧ Below w.heap.size w w' := by
  have hX := heap22 w (.cells (opc 1 th p s n b v) 49) (.cells (resc 0 0 0 false 0 0 0 (.slice none 0 0) 0) 52)
  have HCON := Lib.hid (end_nil th ((w.alloc (.cells (opc 1 th p s n b v) 49)).alloc (.cells (resc 0 0 0 false 0 0 0 (.slice none 0 0) 0) 52)))
  have HB := Lib.hid hX
  clear hX
  unfold opc resc at HCON
  go_enter Try.func18, Try.ntmps18
  unfold opc
  go_wp2_with (go_at_call 42; refine HCON.out.mono ?_; rintro e w1 ⟨rfl, hA⟩; have HD := Lib.hid (donen HB.out.1 (below_eq hA) HB.out.2); clear hA; obtain ⟨z0, z1, z2, z3, z4, z5, z6, z7, z8⟩ := HD.out.nine; have y0 := frozen_of_cells HD.out.row 0; have y1 := frozen_of_cells HD.out.row 1; have y2 := frozen_of_cells HD.out.row 2; have y3 := frozen_of_cells HD.out.row 3; have y4 := frozen_of_cells HD.out.row 4; have y5 := frozen_of_cells HD.out.row 5; have y6 := frozen_of_cells HD.out.row 6; have y7 := frozen_of_cells HD.out.row 7; have y8 := frozen_of_cells HD.out.row 8)
  have hfin := (HD.out.set (free_nil (by omega)) 8 (.int .i64 35)).all (free_nil (by omega)) (.int .i64 0) (.int .u64 0) (.int .i64 0) (.bool false) (.int .i64 0) (.int .i64 0) (.int .i64 0) (.slice none 0 0) (.int .i64 35)
  refine bodyPost_ret (results_cell_row rfl _ _ (w.heap.size + 1) 52 _ (0, 0) _ rfl hfin.row Try.underlying52 rfl (by kernel_rfl)) rfl ?_
  exact ⟨rfl, hfin.q⟩
set_option maxHeartbeats 2000000 in
set_option maxRecDepth 100000 in
theorem calln_2 (th p s n : Int) (b : Nat) (v : Int) (w : World) :
    Calls Try.prog 18 #[.pointer none, .agg (opc 2 th p s n b v)] w fun e w' => e = .returned (.agg #[.int .i64 0, .int .u64 0, .int .i64 0, .bool false, .int .i64 0, .int .i64 0, .int .i64 0, .slice none 0 0, .int .i64 35]) ∧ Below w.heap.size w w' := by
  have hX := heap22 w (.cells (opc 2 th p s n b v) 49) (.cells (resc 0 0 0 false 0 0 0 (.slice none 0 0) 0) 52)
  have HCON := Lib.hid (action_nil p s n ((w.alloc (.cells (opc 2 th p s n b v) 49)).alloc (.cells (resc 0 0 0 false 0 0 0 (.slice none 0 0) 0) 52)))
  have HB := Lib.hid hX
  clear hX
  unfold opc resc at HCON
  go_enter Try.func18, Try.ntmps18
  unfold opc
  go_wp2_with (go_at_call 16; refine HCON.out.mono ?_; rintro e w1 ⟨rfl, hA⟩; have HD := Lib.hid (donen HB.out.1 (below_eq hA) HB.out.2); clear hA; obtain ⟨z0, z1, z2, z3, z4, z5, z6, z7, z8⟩ := HD.out.nine; have y0 := frozen_of_cells HD.out.row 0; have y1 := frozen_of_cells HD.out.row 1; have y2 := frozen_of_cells HD.out.row 2; have y3 := frozen_of_cells HD.out.row 3; have y4 := frozen_of_cells HD.out.row 4; have y5 := frozen_of_cells HD.out.row 5; have y6 := frozen_of_cells HD.out.row 6; have y7 := frozen_of_cells HD.out.row 7; have y8 := frozen_of_cells HD.out.row 8)
  have hfin := ((HD.out.set (free_nil (by omega)) 0 (.int .i64 0)).set (free_nil (by omega)) 8 (.int .i64 35)).all (free_nil (by omega)) (.int .i64 0) (.int .u64 0) (.int .i64 0) (.bool false) (.int .i64 0) (.int .i64 0) (.int .i64 0) (.slice none 0 0) (.int .i64 35)
  refine bodyPost_ret (results_cell_row rfl _ _ (w.heap.size + 1) 52 _ (0, 0) _ rfl hfin.row Try.underlying52 rfl (by kernel_rfl)) rfl ?_
  exact ⟨rfl, hfin.q⟩
set_option maxHeartbeats 2000000 in
set_option maxRecDepth 100000 in
theorem calln_3 (th p s n : Int) (b : Nat) (v : Int) (w : World) :
    Calls Try.prog 18 #[.pointer none, .agg (opc 3 th p s n b v)] w fun e w' => e = .returned (.agg #[.int .i64 0, .int .u64 0, .int .i64 0, .bool false, .int .i64 0, .int .i64 0, .int .i64 0, .slice none 0 0, .int .i64 35]) ∧ Below w.heap.size w w' := by
  have hX := heap22 w (.cells (opc 3 th p s n b v) 49) (.cells (resc 0 0 0 false 0 0 0 (.slice none 0 0) 0) 52)
  have HCON := Lib.hid (mask_nil th n b ((w.alloc (.cells (opc 3 th p s n b v) 49)).alloc (.cells (resc 0 0 0 false 0 0 0 (.slice none 0 0) 0) 52)))
  have HB := Lib.hid hX
  clear hX
  unfold opc resc at HCON
  go_enter Try.func18, Try.ntmps18
  unfold opc
  go_wp2_with (go_at_call 13; refine HCON.out.mono ?_; rintro e w1 ⟨rfl, hA⟩; have HD := Lib.hid (donen HB.out.1 (below_eq hA) HB.out.2); clear hA; obtain ⟨z0, z1, z2, z3, z4, z5, z6, z7, z8⟩ := HD.out.nine; have y0 := frozen_of_cells HD.out.row 0; have y1 := frozen_of_cells HD.out.row 1; have y2 := frozen_of_cells HD.out.row 2; have y3 := frozen_of_cells HD.out.row 3; have y4 := frozen_of_cells HD.out.row 4; have y5 := frozen_of_cells HD.out.row 5; have y6 := frozen_of_cells HD.out.row 6; have y7 := frozen_of_cells HD.out.row 7; have y8 := frozen_of_cells HD.out.row 8)
  have hfin := ((HD.out.set (free_nil (by omega)) 1 (.int .u64 0)).set (free_nil (by omega)) 8 (.int .i64 35)).all (free_nil (by omega)) (.int .i64 0) (.int .u64 0) (.int .i64 0) (.bool false) (.int .i64 0) (.int .i64 0) (.int .i64 0) (.slice none 0 0) (.int .i64 35)
  refine bodyPost_ret (results_cell_row rfl _ _ (w.heap.size + 1) 52 _ (0, 0) _ rfl hfin.row Try.underlying52 rfl (by kernel_rfl)) rfl ?_
  exact ⟨rfl, hfin.q⟩
set_option maxHeartbeats 2000000 in
set_option maxRecDepth 100000 in
theorem calln_4 (th p s n : Int) (b : Nat) (v : Int) (w : World) :
    Calls Try.prog 18 #[.pointer none, .agg (opc 4 th p s n b v)] w fun e w' => e = .returned (.agg #[.int .i64 0, .int .u64 0, .int .i64 0, .bool false, .int .i64 0, .int .i64 0, .int .i64 0, .slice none 0 0, .int .i64 35]) ∧ Below w.heap.size w w' := by
  have hX := heap22 w (.cells (opc 4 th p s n b v) 49) (.cells (resc 0 0 0 false 0 0 0 (.slice none 0 0) 0) 52)
  have HCON := Lib.hid (kill_nil th p s v ((w.alloc (.cells (opc 4 th p s n b v) 49)).alloc (.cells (resc 0 0 0 false 0 0 0 (.slice none 0 0) 0) 52)))
  have HB := Lib.hid hX
  clear hX
  unfold opc resc at HCON
  go_enter Try.func18, Try.ntmps18
  unfold opc
  go_wp2_with (go_at_call 14; refine HCON.out.mono ?_; rintro e w1 ⟨rfl, hA⟩; have HD := Lib.hid (donen HB.out.1 hA HB.out.2); clear hA; obtain ⟨z0, z1, z2, z3, z4, z5, z6, z7, z8⟩ := HD.out.nine; have y0 := frozen_of_cells HD.out.row 0; have y1 := frozen_of_cells HD.out.row 1; have y2 := frozen_of_cells HD.out.row 2; have y3 := frozen_of_cells HD.out.row 3; have y4 := frozen_of_cells HD.out.row 4; have y5 := frozen_of_cells HD.out.row 5; have y6 := frozen_of_cells HD.out.row 6; have y7 := frozen_of_cells HD.out.row 7; have y8 := frozen_of_cells HD.out.row 8)
  have hfin := ((HD.out.set (free_nil (by omega)) 7 (.slice none 0 0)).set (free_nil (by omega)) 8 (.int .i64 35)).all (free_nil (by omega)) (.int .i64 0) (.int .u64 0) (.int .i64 0) (.bool false) (.int .i64 0) (.int .i64 0) (.int .i64 0) (.slice none 0 0) (.int .i64 35)
  refine bodyPost_ret (results_cell_row rfl _ _ (w.heap.size + 1) 52 _ (0, 0) _ rfl hfin.row Try.underlying52 rfl (by kernel_rfl)) rfl ?_
  exact ⟨rfl, hfin.q⟩
set_option maxHeartbeats 2000000 in
set_option maxRecDepth 100000 in
theorem calln_5 (th p s n : Int) (b : Nat) (v : Int) (w : World) :
    Calls Try.prog 18 #[.pointer none, .agg (opc 5 th p s n b v)] w fun e w' => e = .returned (.agg #[.int .i64 0, .int .u64 0, .int .i64 0, .bool false, .int .i64 0, .int .i64 0, .int .i64 0, .slice none 0 0, .int .i64 35]) ∧ Below w.heap.size w w' := by
  have hX := heap22 w (.cells (opc 5 th p s n b v) 49) (.cells (resc 0 0 0 false 0 0 0 (.slice none 0 0) 0) 52)
  have HCON := Lib.hid (wait_nil th b ((w.alloc (.cells (opc 5 th p s n b v) 49)).alloc (.cells (resc 0 0 0 false 0 0 0 (.slice none 0 0) 0) 52)))
  have HB := Lib.hid hX
  clear hX
  unfold opc resc at HCON
  go_enter Try.func18, Try.ntmps18
  unfold opc
  go_wp2_with (go_at_call 43; refine HCON.out.mono ?_; rintro e w1 ⟨rfl, hA⟩; have HD := Lib.hid (donen HB.out.1 (below_eq hA) HB.out.2); clear hA; obtain ⟨z0, z1, z2, z3, z4, z5, z6, z7, z8⟩ := HD.out.nine; have y0 := frozen_of_cells HD.out.row 0; have y1 := frozen_of_cells HD.out.row 1; have y2 := frozen_of_cells HD.out.row 2; have y3 := frozen_of_cells HD.out.row 3; have y4 := frozen_of_cells HD.out.row 4; have y5 := frozen_of_cells HD.out.row 5; have y6 := frozen_of_cells HD.out.row 6; have y7 := frozen_of_cells HD.out.row 7; have y8 := frozen_of_cells HD.out.row 8)
  have hfin := ((((HD.out.set (free_nil (by omega)) 0 (.int .i64 0)).set (free_nil (by omega)) 2 (.int .i64 0)).set (free_nil (by omega)) 3 (.bool false)).set (free_nil (by omega)) 8 (.int .i64 35)).all (free_nil (by omega)) (.int .i64 0) (.int .u64 0) (.int .i64 0) (.bool false) (.int .i64 0) (.int .i64 0) (.int .i64 0) (.slice none 0 0) (.int .i64 35)
  refine bodyPost_ret (results_cell_row rfl _ _ (w.heap.size + 1) 52 _ (0, 0) _ rfl hfin.row Try.underlying52 rfl (by kernel_rfl)) rfl ?_
  exact ⟨rfl, hfin.q⟩
set_option maxHeartbeats 2000000 in
set_option maxRecDepth 100000 in
theorem calln_6 (th p s n : Int) (b : Nat) (v : Int) (w : World) :
    Calls Try.prog 18 #[.pointer none, .agg (opc 6 th p s n b v)] w fun e w' => e = .returned (.agg #[.int .i64 0, .int .u64 0, .int .i64 0, .bool false, .int .i64 0, .int .i64 0, .int .i64 0, .slice none 0 0, .int .i64 0]) ∧ Below w.heap.size w w' := by
  have hX := heap22 w (.cells (opc 6 th p s n b v) 49) (.cells (resc 0 0 0 false 0 0 0 (.slice none 0 0) 0) 52)
  have HCON := Lib.hid (next_nil th ((w.alloc (.cells (opc 6 th p s n b v) 49)).alloc (.cells (resc 0 0 0 false 0 0 0 (.slice none 0 0) 0) 52)))
  have HB := Lib.hid hX
  clear hX
  unfold opc resc at HCON
  go_enter Try.func18, Try.ntmps18
  unfold opc
  go_wp2_with (go_at_call 15; refine HCON.out.mono ?_; rintro e w1 ⟨rfl, hA⟩; have HD := Lib.hid (donen HB.out.1 hA HB.out.2); clear hA; obtain ⟨z0, z1, z2, z3, z4, z5, z6, z7, z8⟩ := HD.out.nine; have y0 := frozen_of_cells HD.out.row 0; have y1 := frozen_of_cells HD.out.row 1; have y2 := frozen_of_cells HD.out.row 2; have y3 := frozen_of_cells HD.out.row 3; have y4 := frozen_of_cells HD.out.row 4; have y5 := frozen_of_cells HD.out.row 5; have y6 := frozen_of_cells HD.out.row 6; have y7 := frozen_of_cells HD.out.row 7; have y8 := frozen_of_cells HD.out.row 8; have hlt : w.heap.size + 1 < w1.heap.size := (Array.getElem?_eq_some_iff.1 HD.out.row).1)
  have hfin := ((((HD.out.set (free_nil (by omega)) 4 (.int .i64 0)).set (free_nil (by omega)) 5 (.int .i64 0)).set (free_nil (by omega)) 6 (.int .i64 0)).set (free_nil (by omega)) 3 (.bool false)).all (free_nil (by omega)) (.int .i64 0) (.int .u64 0) (.int .i64 0) (.bool false) (.int .i64 0) (.int .i64 0) (.int .i64 0) (.slice none 0 0) (.int .i64 0)
  have hfin := hfin.alloc nil_alloc (.cells #[.int .i64 0, .int .i64 0, .int .i64 0] 35)
  refine bodyPost_ret (results_cell_row rfl _ _ (w.heap.size + 1) 52 _ (0, 0) _ rfl hfin.row Try.underlying52 rfl (by kernel_rfl)) rfl ?_
  exact ⟨rfl, hfin.q⟩
set_option maxHeartbeats 2000000 in
set_option maxRecDepth 100000 in
theorem calln_7 (th p s n : Int) (b : Nat) (v : Int) (w : World) :
    Calls Try.prog 18 #[.pointer none, .agg (opc 7 th p s n b v)] w fun e w' => e = .returned (.agg #[.int .i64 0, .int .u64 0, .int .i64 0, .bool false, .int .i64 0, .int .i64 0, .int .i64 0, .slice none 0 0, .int .i64 0]) ∧ Below w.heap.size w w' := by
  have hX := heap22 w (.cells (opc 7 th p s n b v) 49) (.cells (resc 0 0 0 false 0 0 0 (.slice none 0 0) 0) 52)
  have HCON := Lib.hid (cancel_nil th ((w.alloc (.cells (opc 7 th p s n b v) 49)).alloc (.cells (resc 0 0 0 false 0 0 0 (.slice none 0 0) 0) 52)))
  have HB := Lib.hid hX
  clear hX
  unfold opc resc at HCON
  go_enter Try.func18, Try.ntmps18
  unfold opc
  go_wp2_with (go_at_call 20; refine HCON.out.mono ?_; rintro e w1 ⟨rfl, hA⟩; have HD := Lib.hid (donen HB.out.1 (below_eq hA) HB.out.2); clear hA; obtain ⟨z0, z1, z2, z3, z4, z5, z6, z7, z8⟩ := HD.out.nine; have y0 := frozen_of_cells HD.out.row 0; have y1 := frozen_of_cells HD.out.row 1; have y2 := frozen_of_cells HD.out.row 2; have y3 := frozen_of_cells HD.out.row 3; have y4 := frozen_of_cells HD.out.row 4; have y5 := frozen_of_cells HD.out.row 5; have y6 := frozen_of_cells HD.out.row 6; have y7 := frozen_of_cells HD.out.row 7; have y8 := frozen_of_cells HD.out.row 8)
  have hfin := (HD.out.set (free_nil (by omega)) 3 (.bool false)).all (free_nil (by omega)) (.int .i64 0) (.int .u64 0) (.int .i64 0) (.bool false) (.int .i64 0) (.int .i64 0) (.int .i64 0) (.slice none 0 0) (.int .i64 0)
  refine bodyPost_ret (results_cell_row rfl _ _ (w.heap.size + 1) 52 _ (0, 0) _ rfl hfin.row Try.underlying52 rfl (by kernel_rfl)) rfl ?_
  exact ⟨rfl, hfin.q⟩
end Go.Proofs.Ytbpihfphoniclaa
