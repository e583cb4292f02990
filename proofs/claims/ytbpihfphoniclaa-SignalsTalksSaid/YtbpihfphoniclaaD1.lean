import Derived.Test.YtbpihfphoniclaaD0
namespace Go.Proofs.Ytbpihfphoniclaa
open Go.RowKit
set_option linter.unusedVariables false
set_option maxHeartbeats 2000000 in
set_option maxRecDepth 100000 in
theorem call_0 {base t : Nat} {L : Lay} {S : St} (th p s n : Int) (b : Nat) (v : Int) (w : World) (h : RepL w base t L S) (hin : Inv S 1000) (hb64 : b < 18446744073709551616) :
    Calls Try.prog 18 #[.pointer (some ⟨t, 0, none⟩), .agg (opc 0 th p s n b v)] w fun e w' => CallPost base t (0) (0) (0) (false) ((0, 0, 0) : Int × Int × Int) ([]) ((startS S th p).1) (startS S th p).2 w e w' := by
  have hX := heap22 w (.cells (opc 0 th p s n b v) 49) (.cells (resc 0 0 0 false 0 0 0 (.slice none 0 0) 0) 52)
  have H2 := h.below hX.1
  have HCON := Lib.hid (start_calls th p _ H2)
  have HB := Lib.hid (And.intro h hX)
  clear hX H2 hin h
  unfold opc resc at HCON
  go_enter Try.func18, Try.ntmps18
  unfold opc
  go_wp2_with (go_at_call 12; refine HCON.out.mono ?_; rintro e w1 ⟨rfl, hA⟩; have HD := Lib.hid (done0 HB.out.1 HB.out.2.1 hA HB.out.2.2 (wk_nil w1)); clear hA; obtain ⟨z0, z1, z2, z3, z4, z5, z6, z7, z8⟩ := HD.out.nine; have y0 := frozen_of_cells HD.out.row 0; have y1 := frozen_of_cells HD.out.row 1; have y2 := frozen_of_cells HD.out.row 2; have y3 := frozen_of_cells HD.out.row 3; have y4 := frozen_of_cells HD.out.row 4; have y5 := frozen_of_cells HD.out.row 5; have y6 := frozen_of_cells HD.out.row 6; have y7 := frozen_of_cells HD.out.row 7; have y8 := frozen_of_cells HD.out.row 8)
  have hfin := (HD.out.set (free_live (by omega) (by have := HB.out.1.base_lt; omega)) 8 (.int .i64 (startS S th p).1)).all (free_live (by omega) (by have := HB.out.1.base_lt; omega)) (.int .i64 0) (.int .u64 0) (.int .i64 0) (.bool false) (.int .i64 0) (.int .i64 0) (.int .i64 0) (.slice none 0 0) (.int .i64 (startS S th p).1)
  refine bodyPost_ret (results_cell_row rfl _ _ (w.heap.size + 1) 52 _ (0, 0) _ rfl hfin.row Try.underlying52 rfl (by kernel_rfl)) rfl ?_
  exact ⟨_, rfl, hfin.q.2, hfin.q.1⟩
set_option maxHeartbeats 2000000 in
set_option maxRecDepth 100000 in
theorem call_1 {base t : Nat} {L : Lay} {S : St} (th p s n : Int) (b : Nat) (v : Int) (w : World) (h : RepL w base t L S) (hin : Inv S 1000) (hb64 : b < 18446744073709551616) :
    Calls Try.prog 18 #[.pointer (some ⟨t, 0, none⟩), .agg (opc 1 th p s n b v)] w fun e w' => CallPost base t (0) (0) (0) (false) ((0, 0, 0) : Int × Int × Int) ([]) ((endS S th).1) (endS S th).2 w e w' := by
  have hX := heap22 w (.cells (opc 1 th p s n b v) 49) (.cells (resc 0 0 0 false 0 0 0 (.slice none 0 0) 0) 52)
  have H2 := h.below hX.1
  have HCON := Lib.hid (end_calls th _ H2 hin)
  have HB := Lib.hid (And.intro h hX)
  clear hX H2 hin h
  unfold opc resc at HCON
  go_enter Try.func18, Try.ntmps18
  unfold opc
  go_wp2_with (go_at_call 42; refine HCON.out.mono ?_; rintro e w1 ⟨rfl, hA⟩; have HD := Lib.hid (done0 HB.out.1 HB.out.2.1 hA HB.out.2.2 (wk_nil w1)); clear hA; obtain ⟨z0, z1, z2, z3, z4, z5, z6, z7, z8⟩ := HD.out.nine; have y0 := frozen_of_cells HD.out.row 0; have y1 := frozen_of_cells HD.out.row 1; have y2 := frozen_of_cells HD.out.row 2; have y3 := frozen_of_cells HD.out.row 3; have y4 := frozen_of_cells HD.out.row 4; have y5 := frozen_of_cells HD.out.row 5; have y6 := frozen_of_cells HD.out.row 6; have y7 := frozen_of_cells HD.out.row 7; have y8 := frozen_of_cells HD.out.row 8)
  have hfin := (HD.out.set (free_live (by omega) (by have := HB.out.1.base_lt; omega)) 8 (.int .i64 (endS S th).1)).all (free_live (by omega) (by have := HB.out.1.base_lt; omega)) (.int .i64 0) (.int .u64 0) (.int .i64 0) (.bool false) (.int .i64 0) (.int .i64 0) (.int .i64 0) (.slice none 0 0) (.int .i64 (endS S th).1)
  refine bodyPost_ret (results_cell_row rfl _ _ (w.heap.size + 1) 52 _ (0, 0) _ rfl hfin.row Try.underlying52 rfl (by kernel_rfl)) rfl ?_
  exact ⟨_, rfl, hfin.q.2, hfin.q.1⟩
set_option maxHeartbeats 2000000 in
set_option maxRecDepth 100000 in
theorem call_2 {base t : Nat} {L : Lay} {S : St} (th p s n : Int) (b : Nat) (v : Int) (w : World) (h : RepL w base t L S) (hin : Inv S 1000) (hb64 : b < 18446744073709551616) :
    Calls Try.prog 18 #[.pointer (some ⟨t, 0, none⟩), .agg (opc 2 th p s n b v)] w fun e w' => CallPost base t ((actionS S p s n).1.1) (0) (0) (false) ((0, 0, 0) : Int × Int × Int) ([]) ((actionS S p s n).1.2) (actionS S p s n).2 w e w' := by
  have hX := heap22 w (.cells (opc 2 th p s n b v) 49) (.cells (resc 0 0 0 false 0 0 0 (.slice none 0 0) 0) 52)
  have H2 := h.below hX.1
  have HCON := Lib.hid (action_calls p s n _ H2 hin)
  have HB := Lib.hid (And.intro h hX)
  clear hX H2 hin h
  unfold opc resc at HCON
  go_enter Try.func18, Try.ntmps18
  unfold opc
  go_wp2_with (go_at_call 16; refine HCON.out.mono ?_; rintro e w1 ⟨rfl, hA⟩; have HD := Lib.hid (done0 HB.out.1 HB.out.2.1 hA HB.out.2.2 (wk_nil w1)); clear hA; obtain ⟨z0, z1, z2, z3, z4, z5, z6, z7, z8⟩ := HD.out.nine; have y0 := frozen_of_cells HD.out.row 0; have y1 := frozen_of_cells HD.out.row 1; have y2 := frozen_of_cells HD.out.row 2; have y3 := frozen_of_cells HD.out.row 3; have y4 := frozen_of_cells HD.out.row 4; have y5 := frozen_of_cells HD.out.row 5; have y6 := frozen_of_cells HD.out.row 6; have y7 := frozen_of_cells HD.out.row 7; have y8 := frozen_of_cells HD.out.row 8)
  have hfin := ((HD.out.set (free_live (by omega) (by have := HB.out.1.base_lt; omega)) 0 (.int .i64 (actionS S p s n).1.1)).set (free_live (by omega) (by have := HB.out.1.base_lt; omega)) 8 (.int .i64 (actionS S p s n).1.2)).all (free_live (by omega) (by have := HB.out.1.base_lt; omega)) (.int .i64 (actionS S p s n).1.1) (.int .u64 0) (.int .i64 0) (.bool false) (.int .i64 0) (.int .i64 0) (.int .i64 0) (.slice none 0 0) (.int .i64 (actionS S p s n).1.2)
  refine bodyPost_ret (results_cell_row rfl _ _ (w.heap.size + 1) 52 _ (0, 0) _ rfl hfin.row Try.underlying52 rfl (by kernel_rfl)) rfl ?_
  exact ⟨_, rfl, hfin.q.2, hfin.q.1⟩
set_option maxHeartbeats 2000000 in
set_option maxRecDepth 100000 in
theorem call_3 {base t : Nat} {L : Lay} {S : St} (th p s n : Int) (b : Nat) (v : Int) (w : World) (h : RepL w base t L S) (hin : Inv S 1000) (hb64 : b < 18446744073709551616) :
    Calls Try.prog 18 #[.pointer (some ⟨t, 0, none⟩), .agg (opc 3 th p s n b v)] w fun e w' => CallPost base t (0) ((maskS S th n b).1.1) (0) (false) ((0, 0, 0) : Int × Int × Int) ([]) ((maskS S th n b).1.2) (maskS S th n b).2 w e w' := by
  have hX := heap22 w (.cells (opc 3 th p s n b v) 49) (.cells (resc 0 0 0 false 0 0 0 (.slice none 0 0) 0) 52)
  have H2 := h.below hX.1
  have HCON := Lib.hid (mask_calls th n b _ H2 hin hb64)
  have HB := Lib.hid (And.intro h hX)
  clear hX H2 hin h
  unfold opc resc at HCON
  go_enter Try.func18, Try.ntmps18
  unfold opc
  go_wp2_with (go_at_call 13; refine HCON.out.mono ?_; rintro e w1 ⟨rfl, hA⟩; have HD := Lib.hid (done0 HB.out.1 HB.out.2.1 hA HB.out.2.2 (wk_nil w1)); clear hA; obtain ⟨z0, z1, z2, z3, z4, z5, z6, z7, z8⟩ := HD.out.nine; have y0 := frozen_of_cells HD.out.row 0; have y1 := frozen_of_cells HD.out.row 1; have y2 := frozen_of_cells HD.out.row 2; have y3 := frozen_of_cells HD.out.row 3; have y4 := frozen_of_cells HD.out.row 4; have y5 := frozen_of_cells HD.out.row 5; have y6 := frozen_of_cells HD.out.row 6; have y7 := frozen_of_cells HD.out.row 7; have y8 := frozen_of_cells HD.out.row 8)
  have hfin := ((HD.out.set (free_live (by omega) (by have := HB.out.1.base_lt; omega)) 1 (.int .u64 (maskS S th n b).1.1)).set (free_live (by omega) (by have := HB.out.1.base_lt; omega)) 8 (.int .i64 (maskS S th n b).1.2)).all (free_live (by omega) (by have := HB.out.1.base_lt; omega)) (.int .i64 0) (.int .u64 (maskS S th n b).1.1) (.int .i64 0) (.bool false) (.int .i64 0) (.int .i64 0) (.int .i64 0) (.slice none 0 0) (.int .i64 (maskS S th n b).1.2)
  refine bodyPost_ret (results_cell_row rfl _ _ (w.heap.size + 1) 52 _ (0, 0) _ rfl hfin.row Try.underlying52 rfl (by kernel_rfl)) rfl ?_
  exact ⟨_, rfl, hfin.q.2, hfin.q.1⟩
set_option maxHeartbeats 2000000 in
set_option maxRecDepth 100000 in
theorem call_4 {base t : Nat} {L : Lay} {S : St} (th p s n : Int) (b : Nat) (v : Int) (w : World) (h : RepL w base t L S) (hin : Inv S 1000) (hb64 : b < 18446744073709551616) :
    Calls Try.prog 18 #[.pointer (some ⟨t, 0, none⟩), .agg (opc 4 th p s n b v)] w fun e w' => CallPost base t (0) (0) (0) (false) ((0, 0, 0) : Int × Int × Int) ((killS S th p s v).1.1) ((killS S th p s v).1.2) (killS S th p s v).2 w e w' := by
  have hX := heap22 w (.cells (opc 4 th p s n b v) 49) (.cells (resc 0 0 0 false 0 0 0 (.slice none 0 0) 0) 52)
  have H2 := h.below hX.1
  have HCON := Lib.hid (kill_calls th p s v _ H2 hin)
  have HB := Lib.hid (And.intro h hX)
  clear hX H2 hin h
  unfold opc resc at HCON
  go_enter Try.func18, Try.ntmps18
  unfold opc
  go_wp2_with (go_at_call 14; refine HCON.out.mono ?_; rintro e w1 ⟨wk, rfl, hwk, hA⟩; obtain ⟨A, m, c, rfl⟩ := hwk.sl; have HD := Lib.hid (done0 HB.out.1 HB.out.2.1 hA HB.out.2.2 hwk); clear hA; clear hwk; obtain ⟨z0, z1, z2, z3, z4, z5, z6, z7, z8⟩ := HD.out.nine; have y0 := frozen_of_cells HD.out.row 0; have y1 := frozen_of_cells HD.out.row 1; have y2 := frozen_of_cells HD.out.row 2; have y3 := frozen_of_cells HD.out.row 3; have y4 := frozen_of_cells HD.out.row 4; have y5 := frozen_of_cells HD.out.row 5; have y6 := frozen_of_cells HD.out.row 6; have y7 := frozen_of_cells HD.out.row 7; have y8 := frozen_of_cells HD.out.row 8)
  have hfin := ((HD.out.set (free_live (by omega) (by have := HB.out.1.base_lt; omega)) 7 (.slice A m c)).set (free_live (by omega) (by have := HB.out.1.base_lt; omega)) 8 (.int .i64 (killS S th p s v).1.2)).all (free_live (by omega) (by have := HB.out.1.base_lt; omega)) (.int .i64 0) (.int .u64 0) (.int .i64 0) (.bool false) (.int .i64 0) (.int .i64 0) (.int .i64 0) (.slice A m c) (.int .i64 (killS S th p s v).1.2)
  refine bodyPost_ret (results_cell_row rfl _ _ (w.heap.size + 1) 52 _ (0, 0) _ rfl hfin.row Try.underlying52 rfl (by kernel_rfl)) rfl ?_
  exact ⟨_, rfl, hfin.q.2, hfin.q.1⟩
set_option maxHeartbeats 2000000 in
set_option maxRecDepth 100000 in
theorem call_5 {base t : Nat} {L : Lay} {S : St} (th p s n : Int) (b : Nat) (v : Int) (w : World) (h : RepL w base t L S) (hin : Inv S 1000) (hb64 : b < 18446744073709551616) :
    Calls Try.prog 18 #[.pointer (some ⟨t, 0, none⟩), .agg (opc 5 th p s n b v)] w fun e w' => CallPost base t ((waitS S th b).1.1) (0) ((waitS S th b).1.2.1) ((waitS S th b).1.2.2.1) ((0, 0, 0) : Int × Int × Int) ([]) ((waitS S th b).1.2.2.2) (waitS S th b).2 w e w' := by
  have hX := heap22 w (.cells (opc 5 th p s n b v) 49) (.cells (resc 0 0 0 false 0 0 0 (.slice none 0 0) 0) 52)
  have H2 := h.below hX.1
  have HCON := Lib.hid (wait_calls th b _ H2 hin hb64)
  have HB := Lib.hid (And.intro h hX)
  clear hX H2 hin h
  unfold opc resc at HCON
  go_enter Try.func18, Try.ntmps18
  unfold opc
  go_wp2_with (go_at_call 43; refine HCON.out.mono ?_; rintro e w1 ⟨rfl, hA⟩; have HD := Lib.hid (done0 HB.out.1 HB.out.2.1 hA HB.out.2.2 (wk_nil w1)); clear hA; obtain ⟨z0, z1, z2, z3, z4, z5, z6, z7, z8⟩ := HD.out.nine; have y0 := frozen_of_cells HD.out.row 0; have y1 := frozen_of_cells HD.out.row 1; have y2 := frozen_of_cells HD.out.row 2; have y3 := frozen_of_cells HD.out.row 3; have y4 := frozen_of_cells HD.out.row 4; have y5 := frozen_of_cells HD.out.row 5; have y6 := frozen_of_cells HD.out.row 6; have y7 := frozen_of_cells HD.out.row 7; have y8 := frozen_of_cells HD.out.row 8)
  have hfin := ((((HD.out.set (free_live (by omega) (by have := HB.out.1.base_lt; omega)) 0 (.int .i64 (waitS S th b).1.1)).set (free_live (by omega) (by have := HB.out.1.base_lt; omega)) 2 (.int .i64 (waitS S th b).1.2.1)).set (free_live (by omega) (by have := HB.out.1.base_lt; omega)) 3 (.bool (waitS S th b).1.2.2.1)).set (free_live (by omega) (by have := HB.out.1.base_lt; omega)) 8 (.int .i64 (waitS S th b).1.2.2.2)).all (free_live (by omega) (by have := HB.out.1.base_lt; omega)) (.int .i64 (waitS S th b).1.1) (.int .u64 0) (.int .i64 (waitS S th b).1.2.1) (.bool (waitS S th b).1.2.2.1) (.int .i64 0) (.int .i64 0) (.int .i64 0) (.slice none 0 0) (.int .i64 (waitS S th b).1.2.2.2)
  refine bodyPost_ret (results_cell_row rfl _ _ (w.heap.size + 1) 52 _ (0, 0) _ rfl hfin.row Try.underlying52 rfl (by kernel_rfl)) rfl ?_
  exact ⟨_, rfl, hfin.q.2, hfin.q.1⟩
set_option maxHeartbeats 2000000 in
set_option maxRecDepth 100000 in
theorem call_6 {base t : Nat} {L : Lay} {S : St} (th p s n : Int) (b : Nat) (v : Int) (w : World) (h : RepL w base t L S) (hin : Inv S 1000) (hb64 : b < 18446744073709551616) :
    Calls Try.prog 18 #[.pointer (some ⟨t, 0, none⟩), .agg (opc 6 th p s n b v)] w fun e w' => CallPost base t (0) (0) (0) ((nextS S th).1.2) (nextS S th).1.1 ([]) (0) (nextS S th).2 w e w' := by
  have hX := heap22 w (.cells (opc 6 th p s n b v) 49) (.cells (resc 0 0 0 false 0 0 0 (.slice none 0 0) 0) 52)
  have H2 := h.below hX.1
  have HCON := Lib.hid (next_calls th _ H2 hin)
  have HB := Lib.hid (And.intro h hX)
  clear hX H2 hin h
  unfold opc resc at HCON
  go_enter Try.func18, Try.ntmps18
  unfold opc
  go_wp2_with (go_at_call 15; refine HCON.out.mono ?_; simp only [dv]; rintro e w1 ⟨rfl, hA⟩; have HD := Lib.hid (done0 HB.out.1 HB.out.2.1 hA HB.out.2.2 (wk_nil w1)); clear hA; obtain ⟨z0, z1, z2, z3, z4, z5, z6, z7, z8⟩ := HD.out.nine; have y0 := frozen_of_cells HD.out.row 0; have y1 := frozen_of_cells HD.out.row 1; have y2 := frozen_of_cells HD.out.row 2; have y3 := frozen_of_cells HD.out.row 3; have y4 := frozen_of_cells HD.out.row 4; have y5 := frozen_of_cells HD.out.row 5; have y6 := frozen_of_cells HD.out.row 6; have y7 := frozen_of_cells HD.out.row 7; have y8 := frozen_of_cells HD.out.row 8; have hlt : w.heap.size + 1 < w1.heap.size := (Array.getElem?_eq_some_iff.1 HD.out.row).1)
  have hfin := ((((HD.out.set (free_live (by omega) (by have := HB.out.1.base_lt; omega)) 4 (.int .i64 (nextS S th).1.1.1)).set (free_live (by omega) (by have := HB.out.1.base_lt; omega)) 5 (.int .i64 (nextS S th).1.1.2.1)).set (free_live (by omega) (by have := HB.out.1.base_lt; omega)) 6 (.int .i64 (nextS S th).1.1.2.2)).set (free_live (by omega) (by have := HB.out.1.base_lt; omega)) 3 (.bool (nextS S th).1.2)).all (free_live (by omega) (by have := HB.out.1.base_lt; omega)) (.int .i64 0) (.int .u64 0) (.int .i64 0) (.bool (nextS S th).1.2) (.int .i64 (nextS S th).1.1.1) (.int .i64 (nextS S th).1.1.2.1) (.int .i64 (nextS S th).1.1.2.2) (.slice none 0 0) (.int .i64 0)
  have hfin := hfin.alloc live_alloc (.cells #[.int .i64 (nextS S th).1.1.1, .int .i64 (nextS S th).1.1.2.1, .int .i64 (nextS S th).1.1.2.2] 35)
  refine bodyPost_ret (results_cell_row rfl _ _ (w.heap.size + 1) 52 _ (0, 0) _ rfl hfin.row Try.underlying52 rfl (by kernel_rfl)) rfl ?_
  exact ⟨_, rfl, hfin.q.2, hfin.q.1⟩
set_option maxHeartbeats 2000000 in
set_option maxRecDepth 100000 in
theorem call_7 {base t : Nat} {L : Lay} {S : St} (th p s n : Int) (b : Nat) (v : Int) (w : World) (h : RepL w base t L S) (hin : Inv S 1000) (hb64 : b < 18446744073709551616) :
    Calls Try.prog 18 #[.pointer (some ⟨t, 0, none⟩), .agg (opc 7 th p s n b v)] w fun e w' => CallPost base t (0) (0) (0) ((cancelS S th).1) ((0, 0, 0) : Int × Int × Int) ([]) (0) (cancelS S th).2 w e w' := by
  have hX := heap22 w (.cells (opc 7 th p s n b v) 49) (.cells (resc 0 0 0 false 0 0 0 (.slice none 0 0) 0) 52)
  have H2 := h.below hX.1
  have HCON := Lib.hid (cancel_calls th _ H2)
  have HB := Lib.hid (And.intro h hX)
  clear hX H2 hin h
  unfold opc resc at HCON
  go_enter Try.func18, Try.ntmps18
  unfold opc
  go_wp2_with (go_at_call 20; refine HCON.out.mono ?_; rintro e w1 ⟨rfl, hA⟩; have HD := Lib.hid (done0 HB.out.1 HB.out.2.1 hA HB.out.2.2 (wk_nil w1)); clear hA; obtain ⟨z0, z1, z2, z3, z4, z5, z6, z7, z8⟩ := HD.out.nine; have y0 := frozen_of_cells HD.out.row 0; have y1 := frozen_of_cells HD.out.row 1; have y2 := frozen_of_cells HD.out.row 2; have y3 := frozen_of_cells HD.out.row 3; have y4 := frozen_of_cells HD.out.row 4; have y5 := frozen_of_cells HD.out.row 5; have y6 := frozen_of_cells HD.out.row 6; have y7 := frozen_of_cells HD.out.row 7; have y8 := frozen_of_cells HD.out.row 8)
  have hfin := (HD.out.set (free_live (by omega) (by have := HB.out.1.base_lt; omega)) 3 (.bool (cancelS S th).1)).all (free_live (by omega) (by have := HB.out.1.base_lt; omega)) (.int .i64 0) (.int .u64 0) (.int .i64 0) (.bool (cancelS S th).1) (.int .i64 0) (.int .i64 0) (.int .i64 0) (.slice none 0 0) (.int .i64 0)
  refine bodyPost_ret (results_cell_row rfl _ _ (w.heap.size + 1) 52 _ (0, 0) _ rfl hfin.row Try.underlying52 rfl (by kernel_rfl)) rfl ?_
  exact ⟨_, rfl, hfin.q.2, hfin.q.1⟩
end Go.Proofs.Ytbpihfphoniclaa
