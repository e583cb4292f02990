/- A call of the reference by a call's struct (24), for each kind; other kinds do nothing (18, 24). -/
import Derived.Test.YtbpihfphoniclaaTr
import Derived.Test.YtbpihfphoniclaaD1
import Derived.Test.YtbpihfphoniclaaD4
import Derived.Test.YtbpihfphoniclaaS4
import Derived.Test.YtbpihfphoniclaaS5
import Derived.Test.YtbpihfphoniclaaD3
import Derived.Test.YtbpihfphoniclaaO2
import Derived.Deep.RegionHeld3
namespace Go.Proofs.Ytbpihfphoniclaa
open Go.RowKit
set_option linter.unusedVariables false
theorem RAfter.boxset {t : Nat} {S : St} {w X : World} (h : RAfter t S w X) {g : Nat} {e : TypeId} (hg : w.heap.size ≤ g) (hty : Ty X g e) (he : e ≠ 111 ∧ e ≠ 127) (i : Nat) (u : Value) : RAfter t S w (X.setCell ⟨g, i, none⟩ u) := by
  obtain ⟨⟨L, h1⟩, h2⟩ := h
  exact ⟨⟨L, h1.other hty he i u⟩, grown_new h2 hg i u⟩
def RQL (t : Nat) (S : St) (w : World) (v : Value) (l : List (Int × Int × Int)) (X : World) : Prop := RAfter t S w X ∧ Wk X v l
theorem rfree_live {t : Nat} {S : St} {w : World} {v : Value} {l : List (Int × Int × Int)} {g : Nat} (hg : w.heap.size ≤ g) : Free (RQL t S w v l) g :=
  fun X hty hq i u => ⟨hq.1.boxset hg hty (by decide) i u, hq.2.boxset hty (by decide) i u⟩
def RCallPost (t : Nat) (n : Int) (b : Nat) (v : Int) (ok : Bool) (d : Int × Int × Int) (l : List (Int × Int × Int)) (c : Int) (S' : St) (w : World) (e : Ending) (w' : World) : Prop :=
  ∃ wk, e = .returned (.agg (resc n b v ok d.1 d.2.1 d.2.2 wk c)) ∧ Wk w' wk l ∧ RAfter t S' w w'
theorem rdone0 {t : Nat} {L : RLay} {S S' : St} {w W X : World} (h : RRepL w t L S) (hb : Below w.heap.size w W) (hw : RAfter t S' W X) {cs : Array Value} (hr : W.heap[w.heap.size + 1]? = some (.cells cs 52 (0, 0))) {v : Value} {l : List (Int × Int × Int)} (hk : Wk X v l) :
    Done (RQL t S' w v l) (w.heap.size + 1) X cs := by
  refine ⟨⟨⟨hw.1, (grown_below hb).trans hw.2⟩, hk⟩, (hw.2.block _ (Array.getElem?_eq_some_iff.1 hr).1 ?_).trans hr⟩
  have := h.lt
  intro e
  cases e
  omega
set_option maxHeartbeats 2000000 in
set_option maxRecDepth 100000 in
theorem rcall_0 {t : Nat} {L : RLay} {S : St} (th p s n : Int) (b : Nat) (v : Int) (w : World) (h : RRepL w t L S) (hin : Inv S 1000) (hb64 : b < 18446744073709551616) :
    Calls Try.prog 24 #[.pointer (some ⟨t, 0, none⟩), .agg (opc 0 th p s n b v)] w fun e w' => RCallPost t (0) (0) (0) (false) ((0, 0, 0) : Int × Int × Int) ([]) ((startS S th p).1) (startS S th p).2 w e w' := by
  have hX := heap22 w (.cells (opc 0 th p s n b v) 49) (.cells (resc 0 0 0 false 0 0 0 (.slice none 0 0) 0) 52)
  have H2 := h.below hX.1
  have HCON := Lib.hid (rstart_calls th p _ H2 hin)
  have HB := Lib.hid (And.intro h hX)
  clear hX H2 hin h
  unfold opc resc at HCON
  go_enter Try.func24, Try.ntmps24
  unfold opc
  go_wp2_with (go_at_call 45; refine HCON.out.mono ?_; rintro e w1 ⟨rfl, hA⟩; have HD := Lib.hid (rdone0 HB.out.1 HB.out.2.1 hA HB.out.2.2 (wk_nil w1)); clear hA; obtain ⟨z0, z1, z2, z3, z4, z5, z6, z7, z8⟩ := HD.out.nine; have y0 := frozen_of_cells HD.out.row 0; have y1 := frozen_of_cells HD.out.row 1; have y2 := frozen_of_cells HD.out.row 2; have y3 := frozen_of_cells HD.out.row 3; have y4 := frozen_of_cells HD.out.row 4; have y5 := frozen_of_cells HD.out.row 5; have y6 := frozen_of_cells HD.out.row 6; have y7 := frozen_of_cells HD.out.row 7; have y8 := frozen_of_cells HD.out.row 8)
  have hfin := (HD.out.set (rfree_live (by omega)) 8 (.int .i64 (startS S th p).1)).all (rfree_live (by omega)) (.int .i64 0) (.int .u64 0) (.int .i64 0) (.bool false) (.int .i64 0) (.int .i64 0) (.int .i64 0) (.slice none 0 0) (.int .i64 (startS S th p).1)
  refine bodyPost_ret (results_cell_row rfl _ _ (w.heap.size + 1) 52 _ (0, 0) _ rfl hfin.row Try.underlying52 rfl (by kernel_rfl)) rfl ?_
  exact ⟨_, rfl, hfin.q.2, hfin.q.1⟩
set_option maxHeartbeats 2000000 in
set_option maxRecDepth 100000 in
theorem rcall_1 {t : Nat} {L : RLay} {S : St} (th p s n : Int) (b : Nat) (v : Int) (w : World) (h : RRepL w t L S) (hin : Inv S 1000) (hb64 : b < 18446744073709551616) :
    Calls Try.prog 24 #[.pointer (some ⟨t, 0, none⟩), .agg (opc 1 th p s n b v)] w fun e w' => RCallPost t (0) (0) (0) (false) ((0, 0, 0) : Int × Int × Int) ([]) ((endS S th).1) (endS S th).2 w e w' := by
  have hX := heap22 w (.cells (opc 1 th p s n b v) 49) (.cells (resc 0 0 0 false 0 0 0 (.slice none 0 0) 0) 52)
  have H2 := h.below hX.1
  have HCON := Lib.hid (rend_calls th _ H2 hin)
  have HB := Lib.hid (And.intro h hX)
  clear hX H2 hin h
  unfold opc resc at HCON
  go_enter Try.func24, Try.ntmps24
  unfold opc
  go_wp2_with (go_at_call 46; refine HCON.out.mono ?_; rintro e w1 ⟨rfl, hA⟩; have HD := Lib.hid (rdone0 HB.out.1 HB.out.2.1 hA HB.out.2.2 (wk_nil w1)); clear hA; obtain ⟨z0, z1, z2, z3, z4, z5, z6, z7, z8⟩ := HD.out.nine; have y0 := frozen_of_cells HD.out.row 0; have y1 := frozen_of_cells HD.out.row 1; have y2 := frozen_of_cells HD.out.row 2; have y3 := frozen_of_cells HD.out.row 3; have y4 := frozen_of_cells HD.out.row 4; have y5 := frozen_of_cells HD.out.row 5; have y6 := frozen_of_cells HD.out.row 6; have y7 := frozen_of_cells HD.out.row 7; have y8 := frozen_of_cells HD.out.row 8)
  have hfin := (HD.out.set (rfree_live (by omega)) 8 (.int .i64 (endS S th).1)).all (rfree_live (by omega)) (.int .i64 0) (.int .u64 0) (.int .i64 0) (.bool false) (.int .i64 0) (.int .i64 0) (.int .i64 0) (.slice none 0 0) (.int .i64 (endS S th).1)
  refine bodyPost_ret (results_cell_row rfl _ _ (w.heap.size + 1) 52 _ (0, 0) _ rfl hfin.row Try.underlying52 rfl (by kernel_rfl)) rfl ?_
  exact ⟨_, rfl, hfin.q.2, hfin.q.1⟩
set_option maxHeartbeats 2000000 in
set_option maxRecDepth 100000 in
theorem rcall_2 {t : Nat} {L : RLay} {S : St} (th p s n : Int) (b : Nat) (v : Int) (w : World) (h : RRepL w t L S) (hin : Inv S 1000) (hb64 : b < 18446744073709551616) :
    Calls Try.prog 24 #[.pointer (some ⟨t, 0, none⟩), .agg (opc 2 th p s n b v)] w fun e w' => RCallPost t ((actionS S p s n).1.1) (0) (0) (false) ((0, 0, 0) : Int × Int × Int) ([]) ((actionS S p s n).1.2) (actionS S p s n).2 w e w' := by
  have hX := heap22 w (.cells (opc 2 th p s n b v) 49) (.cells (resc 0 0 0 false 0 0 0 (.slice none 0 0) 0) 52)
  have H2 := h.below hX.1
  have HCON := Lib.hid (raction_calls p s n _ H2 hin)
  have HB := Lib.hid (And.intro h hX)
  clear hX H2 hin h
  unfold opc resc at HCON
  go_enter Try.func24, Try.ntmps24
  unfold opc
  go_wp2_with (go_at_call 47; refine HCON.out.mono ?_; rintro e w1 ⟨rfl, hA⟩; have HD := Lib.hid (rdone0 HB.out.1 HB.out.2.1 hA HB.out.2.2 (wk_nil w1)); clear hA; obtain ⟨z0, z1, z2, z3, z4, z5, z6, z7, z8⟩ := HD.out.nine; have y0 := frozen_of_cells HD.out.row 0; have y1 := frozen_of_cells HD.out.row 1; have y2 := frozen_of_cells HD.out.row 2; have y3 := frozen_of_cells HD.out.row 3; have y4 := frozen_of_cells HD.out.row 4; have y5 := frozen_of_cells HD.out.row 5; have y6 := frozen_of_cells HD.out.row 6; have y7 := frozen_of_cells HD.out.row 7; have y8 := frozen_of_cells HD.out.row 8)
  have hfin := ((HD.out.set (rfree_live (by omega)) 0 (.int .i64 (actionS S p s n).1.1)).set (rfree_live (by omega)) 8 (.int .i64 (actionS S p s n).1.2)).all (rfree_live (by omega)) (.int .i64 (actionS S p s n).1.1) (.int .u64 0) (.int .i64 0) (.bool false) (.int .i64 0) (.int .i64 0) (.int .i64 0) (.slice none 0 0) (.int .i64 (actionS S p s n).1.2)
  refine bodyPost_ret (results_cell_row rfl _ _ (w.heap.size + 1) 52 _ (0, 0) _ rfl hfin.row Try.underlying52 rfl (by kernel_rfl)) rfl ?_
  exact ⟨_, rfl, hfin.q.2, hfin.q.1⟩
set_option maxHeartbeats 2000000 in
set_option maxRecDepth 100000 in
theorem rcall_3 {t : Nat} {L : RLay} {S : St} (th p s n : Int) (b : Nat) (v : Int) (w : World) (h : RRepL w t L S) (hin : Inv S 1000) (hb64 : b < 18446744073709551616) :
    Calls Try.prog 24 #[.pointer (some ⟨t, 0, none⟩), .agg (opc 3 th p s n b v)] w fun e w' => RCallPost t (0) ((maskS S th n b).1.1) (0) (false) ((0, 0, 0) : Int × Int × Int) ([]) ((maskS S th n b).1.2) (maskS S th n b).2 w e w' := by
  have hX := heap22 w (.cells (opc 3 th p s n b v) 49) (.cells (resc 0 0 0 false 0 0 0 (.slice none 0 0) 0) 52)
  have H2 := h.below hX.1
  have HCON := Lib.hid (rmask_calls th n b _ H2 hin hb64)
  have HB := Lib.hid (And.intro h hX)
  clear hX H2 hin h
  unfold opc resc at HCON
  go_enter Try.func24, Try.ntmps24
  unfold opc
  go_wp2_with (go_at_call 48; refine HCON.out.mono ?_; rintro e w1 ⟨rfl, hA⟩; have HD := Lib.hid (rdone0 HB.out.1 HB.out.2.1 hA HB.out.2.2 (wk_nil w1)); clear hA; obtain ⟨z0, z1, z2, z3, z4, z5, z6, z7, z8⟩ := HD.out.nine; have y0 := frozen_of_cells HD.out.row 0; have y1 := frozen_of_cells HD.out.row 1; have y2 := frozen_of_cells HD.out.row 2; have y3 := frozen_of_cells HD.out.row 3; have y4 := frozen_of_cells HD.out.row 4; have y5 := frozen_of_cells HD.out.row 5; have y6 := frozen_of_cells HD.out.row 6; have y7 := frozen_of_cells HD.out.row 7; have y8 := frozen_of_cells HD.out.row 8)
  have hfin := ((HD.out.set (rfree_live (by omega)) 1 (.int .u64 (maskS S th n b).1.1)).set (rfree_live (by omega)) 8 (.int .i64 (maskS S th n b).1.2)).all (rfree_live (by omega)) (.int .i64 0) (.int .u64 (maskS S th n b).1.1) (.int .i64 0) (.bool false) (.int .i64 0) (.int .i64 0) (.int .i64 0) (.slice none 0 0) (.int .i64 (maskS S th n b).1.2)
  refine bodyPost_ret (results_cell_row rfl _ _ (w.heap.size + 1) 52 _ (0, 0) _ rfl hfin.row Try.underlying52 rfl (by kernel_rfl)) rfl ?_
  exact ⟨_, rfl, hfin.q.2, hfin.q.1⟩
set_option maxHeartbeats 2000000 in
set_option maxRecDepth 100000 in
theorem rcall_4 {t : Nat} {L : RLay} {S : St} (th p s n : Int) (b : Nat) (v : Int) (w : World) (h : RRepL w t L S) (hin : Inv S 1000) (hb64 : b < 18446744073709551616) :
    Calls Try.prog 24 #[.pointer (some ⟨t, 0, none⟩), .agg (opc 4 th p s n b v)] w fun e w' => RCallPost t (0) (0) (0) (false) ((0, 0, 0) : Int × Int × Int) ((killS S th p s v).1.1) ((killS S th p s v).1.2) (killS S th p s v).2 w e w' := by
  have hX := heap22 w (.cells (opc 4 th p s n b v) 49) (.cells (resc 0 0 0 false 0 0 0 (.slice none 0 0) 0) 52)
  have H2 := h.below hX.1
  have HCON := Lib.hid (rkill_calls th p s v _ H2 hin)
  have HB := Lib.hid (And.intro h hX)
  clear hX H2 hin h
  unfold opc resc at HCON
  go_enter Try.func24, Try.ntmps24
  unfold opc
  go_wp2_with (go_at_call 49; refine HCON.out.mono ?_; rintro e w1 ⟨wk, rfl, hwk, hA⟩; obtain ⟨A, m, c, rfl⟩ := hwk.sl; have HD := Lib.hid (rdone0 HB.out.1 HB.out.2.1 hA HB.out.2.2 hwk); clear hA; clear hwk; obtain ⟨z0, z1, z2, z3, z4, z5, z6, z7, z8⟩ := HD.out.nine; have y0 := frozen_of_cells HD.out.row 0; have y1 := frozen_of_cells HD.out.row 1; have y2 := frozen_of_cells HD.out.row 2; have y3 := frozen_of_cells HD.out.row 3; have y4 := frozen_of_cells HD.out.row 4; have y5 := frozen_of_cells HD.out.row 5; have y6 := frozen_of_cells HD.out.row 6; have y7 := frozen_of_cells HD.out.row 7; have y8 := frozen_of_cells HD.out.row 8)
  have hfin := ((HD.out.set (rfree_live (by omega)) 7 (.slice A m c)).set (rfree_live (by omega)) 8 (.int .i64 (killS S th p s v).1.2)).all (rfree_live (by omega)) (.int .i64 0) (.int .u64 0) (.int .i64 0) (.bool false) (.int .i64 0) (.int .i64 0) (.int .i64 0) (.slice A m c) (.int .i64 (killS S th p s v).1.2)
  refine bodyPost_ret (results_cell_row rfl _ _ (w.heap.size + 1) 52 _ (0, 0) _ rfl hfin.row Try.underlying52 rfl (by kernel_rfl)) rfl ?_
  exact ⟨_, rfl, hfin.q.2, hfin.q.1⟩
set_option maxHeartbeats 2000000 in
set_option maxRecDepth 100000 in
theorem rcall_5 {t : Nat} {L : RLay} {S : St} (th p s n : Int) (b : Nat) (v : Int) (w : World) (h : RRepL w t L S) (hin : Inv S 1000) (hb64 : b < 18446744073709551616) :
    Calls Try.prog 24 #[.pointer (some ⟨t, 0, none⟩), .agg (opc 5 th p s n b v)] w fun e w' => RCallPost t ((waitS S th b).1.1) (0) ((waitS S th b).1.2.1) ((waitS S th b).1.2.2.1) ((0, 0, 0) : Int × Int × Int) ([]) ((waitS S th b).1.2.2.2) (waitS S th b).2 w e w' := by
  have hX := heap22 w (.cells (opc 5 th p s n b v) 49) (.cells (resc 0 0 0 false 0 0 0 (.slice none 0 0) 0) 52)
  have H2 := h.below hX.1
  have HCON := Lib.hid (rwait_calls th b _ H2 hin hb64)
  have HB := Lib.hid (And.intro h hX)
  clear hX H2 hin h
  unfold opc resc at HCON
  go_enter Try.func24, Try.ntmps24
  unfold opc
  go_wp2_with (go_at_call 50; refine HCON.out.mono ?_; rintro e w1 ⟨rfl, hA⟩; have HD := Lib.hid (rdone0 HB.out.1 HB.out.2.1 hA HB.out.2.2 (wk_nil w1)); clear hA; obtain ⟨z0, z1, z2, z3, z4, z5, z6, z7, z8⟩ := HD.out.nine; have y0 := frozen_of_cells HD.out.row 0; have y1 := frozen_of_cells HD.out.row 1; have y2 := frozen_of_cells HD.out.row 2; have y3 := frozen_of_cells HD.out.row 3; have y4 := frozen_of_cells HD.out.row 4; have y5 := frozen_of_cells HD.out.row 5; have y6 := frozen_of_cells HD.out.row 6; have y7 := frozen_of_cells HD.out.row 7; have y8 := frozen_of_cells HD.out.row 8)
  have hfin := ((((HD.out.set (rfree_live (by omega)) 0 (.int .i64 (waitS S th b).1.1)).set (rfree_live (by omega)) 2 (.int .i64 (waitS S th b).1.2.1)).set (rfree_live (by omega)) 3 (.bool (waitS S th b).1.2.2.1)).set (rfree_live (by omega)) 8 (.int .i64 (waitS S th b).1.2.2.2)).all (rfree_live (by omega)) (.int .i64 (waitS S th b).1.1) (.int .u64 0) (.int .i64 (waitS S th b).1.2.1) (.bool (waitS S th b).1.2.2.1) (.int .i64 0) (.int .i64 0) (.int .i64 0) (.slice none 0 0) (.int .i64 (waitS S th b).1.2.2.2)
  refine bodyPost_ret (results_cell_row rfl _ _ (w.heap.size + 1) 52 _ (0, 0) _ rfl hfin.row Try.underlying52 rfl (by kernel_rfl)) rfl ?_
  exact ⟨_, rfl, hfin.q.2, hfin.q.1⟩
set_option maxHeartbeats 2000000 in
set_option maxRecDepth 100000 in
theorem rcall_6 {t : Nat} {L : RLay} {S : St} (th p s n : Int) (b : Nat) (v : Int) (w : World) (h : RRepL w t L S) (hin : Inv S 1000) (hb64 : b < 18446744073709551616) :
    Calls Try.prog 24 #[.pointer (some ⟨t, 0, none⟩), .agg (opc 6 th p s n b v)] w fun e w' => RCallPost t (0) (0) (0) ((nextS S th).1.2) (nextS S th).1.1 ([]) (0) (nextS S th).2 w e w' := by
  have hX := heap22 w (.cells (opc 6 th p s n b v) 49) (.cells (resc 0 0 0 false 0 0 0 (.slice none 0 0) 0) 52)
  have H2 := h.below hX.1
  have HCON := Lib.hid (rnext_calls th _ H2 hin)
  have HB := Lib.hid (And.intro h hX)
  clear hX H2 hin h
  unfold opc resc at HCON
  go_enter Try.func24, Try.ntmps24
  unfold opc
  go_wp2_with (go_at_call 51; refine HCON.out.mono ?_; simp only [dv]; rintro e w1 ⟨rfl, hA⟩; have HD := Lib.hid (rdone0 HB.out.1 HB.out.2.1 hA HB.out.2.2 (wk_nil w1)); clear hA; obtain ⟨z0, z1, z2, z3, z4, z5, z6, z7, z8⟩ := HD.out.nine; have y0 := frozen_of_cells HD.out.row 0; have y1 := frozen_of_cells HD.out.row 1; have y2 := frozen_of_cells HD.out.row 2; have y3 := frozen_of_cells HD.out.row 3; have y4 := frozen_of_cells HD.out.row 4; have y5 := frozen_of_cells HD.out.row 5; have y6 := frozen_of_cells HD.out.row 6; have y7 := frozen_of_cells HD.out.row 7; have y8 := frozen_of_cells HD.out.row 8)
  have hfin := ((((HD.out.set (rfree_live (by omega)) 4 (.int .i64 (nextS S th).1.1.1)).set (rfree_live (by omega)) 5 (.int .i64 (nextS S th).1.1.2.1)).set (rfree_live (by omega)) 6 (.int .i64 (nextS S th).1.1.2.2)).set (rfree_live (by omega)) 3 (.bool (nextS S th).1.2)).all (rfree_live (by omega)) (.int .i64 0) (.int .u64 0) (.int .i64 0) (.bool (nextS S th).1.2) (.int .i64 (nextS S th).1.1.1) (.int .i64 (nextS S th).1.1.2.1) (.int .i64 (nextS S th).1.1.2.2) (.slice none 0 0) (.int .i64 0)
  refine bodyPost_ret (results_cell_row rfl _ _ (w.heap.size + 1) 52 _ (0, 0) _ rfl hfin.row Try.underlying52 rfl (by kernel_rfl)) rfl ?_
  exact ⟨_, rfl, hfin.q.2, hfin.q.1⟩
set_option maxHeartbeats 2000000 in
set_option maxRecDepth 100000 in
theorem rcall_7 {t : Nat} {L : RLay} {S : St} (th p s n : Int) (b : Nat) (v : Int) (w : World) (h : RRepL w t L S) (hin : Inv S 1000) (hb64 : b < 18446744073709551616) :
    Calls Try.prog 24 #[.pointer (some ⟨t, 0, none⟩), .agg (opc 7 th p s n b v)] w fun e w' => RCallPost t (0) (0) (0) ((cancelS S th).1) ((0, 0, 0) : Int × Int × Int) ([]) (0) (cancelS S th).2 w e w' := by
  have hX := heap22 w (.cells (opc 7 th p s n b v) 49) (.cells (resc 0 0 0 false 0 0 0 (.slice none 0 0) 0) 52)
  have H2 := h.below hX.1
  have HCON := Lib.hid (rcancel_calls th _ H2)
  have HB := Lib.hid (And.intro h hX)
  clear hX H2 hin h
  unfold opc resc at HCON
  go_enter Try.func24, Try.ntmps24
  unfold opc
  go_wp2_with (go_at_call 52; refine HCON.out.mono ?_; rintro e w1 ⟨rfl, hA⟩; have HD := Lib.hid (rdone0 HB.out.1 HB.out.2.1 hA HB.out.2.2 (wk_nil w1)); clear hA; obtain ⟨z0, z1, z2, z3, z4, z5, z6, z7, z8⟩ := HD.out.nine; have y0 := frozen_of_cells HD.out.row 0; have y1 := frozen_of_cells HD.out.row 1; have y2 := frozen_of_cells HD.out.row 2; have y3 := frozen_of_cells HD.out.row 3; have y4 := frozen_of_cells HD.out.row 4; have y5 := frozen_of_cells HD.out.row 5; have y6 := frozen_of_cells HD.out.row 6; have y7 := frozen_of_cells HD.out.row 7; have y8 := frozen_of_cells HD.out.row 8)
  have hfin := (HD.out.set (rfree_live (by omega)) 3 (.bool (cancelS S th).1)).all (rfree_live (by omega)) (.int .i64 0) (.int .u64 0) (.int .i64 0) (.bool (cancelS S th).1) (.int .i64 0) (.int .i64 0) (.int .i64 0) (.slice none 0 0) (.int .i64 0)
  refine bodyPost_ret (results_cell_row rfl _ _ (w.heap.size + 1) 52 _ (0, 0) _ rfl hfin.row Try.underlying52 rfl (by kernel_rfl)) rfl ?_
  exact ⟨_, rfl, hfin.q.2, hfin.q.1⟩
set_option maxHeartbeats 2000000 in
set_option maxRecDepth 100000 in
theorem call_o (q : Value) (hq : ∃ g, q = .pointer (some ⟨g, 0, none⟩)) (k th p s n : Int) (b : Nat) (v : Int) (w : World) (hk : k < 0 ∨ 7 < k) :
    Calls Try.prog 18 #[q, .agg (opc k th p s n b v)] w fun e w' => e = .returned (.agg (resc 0 0 0 false 0 0 0 (.slice none 0 0) 0)) ∧ Below w.heap.size w w' := by
  obtain ⟨g, rfl⟩ := hq
  have k0 : (k == 0) = false := by simp; omega
  have k1 : (k == 1) = false := by simp; omega
  have k2 : (k == 2) = false := by simp; omega
  have k3 : (k == 3) = false := by simp; omega
  have k4 : (k == 4) = false := by simp; omega
  have k5 : (k == 5) = false := by simp; omega
  have k6 : (k == 6) = false := by simp; omega
  have k7 : (k == 7) = false := by simp; omega
  clear hk
  go_enter Try.func18, Try.ntmps18
  unfold opc
  go_wp2
  refine bodyPost_ret (results_cell_row rfl _ _ (w.heap.size + 1) 52 _ (0, 0) _ rfl (heap22 w _ _).2 Try.underlying52 rfl (by kernel_rfl)) rfl ?_
  exact ⟨rfl, (heap22 w _ _).1⟩
set_option maxHeartbeats 2000000 in
set_option maxRecDepth 100000 in
theorem rcall_o (q : Value) (hq : ∃ g, q = .pointer (some ⟨g, 0, none⟩)) (k th p s n : Int) (b : Nat) (v : Int) (w : World) (hk : k < 0 ∨ 7 < k) :
    Calls Try.prog 24 #[q, .agg (opc k th p s n b v)] w fun e w' => e = .returned (.agg (resc 0 0 0 false 0 0 0 (.slice none 0 0) 0)) ∧ Below w.heap.size w w' := by
  obtain ⟨g, rfl⟩ := hq
  have k0 : (k == 0) = false := by simp; omega
  have k1 : (k == 1) = false := by simp; omega
  have k2 : (k == 2) = false := by simp; omega
  have k3 : (k == 3) = false := by simp; omega
  have k4 : (k == 4) = false := by simp; omega
  have k5 : (k == 5) = false := by simp; omega
  have k6 : (k == 6) = false := by simp; omega
  have k7 : (k == 7) = false := by simp; omega
  clear hk
  go_enter Try.func24, Try.ntmps24
  unfold opc
  go_wp2
  refine bodyPost_ret (results_cell_row rfl _ _ (w.heap.size + 1) 52 _ (0, 0) _ rfl (heap22 w _ _).2 Try.underlying52 rfl (by kernel_rfl)) rfl ?_
  exact ⟨rfl, (heap22 w _ _).1⟩
end Go.Proofs.Ytbpihfphoniclaa
namespace Go.Proofs.Ytbpihfphoniclaa
open Go.RowKit
set_option linter.unusedVariables false
set_option maxHeartbeats 1000000 in
set_option maxRecDepth 100000 in
theorem seen_calls {base t tr : Nat} {L : Lay} {LR : RLay} {S : St} (w : World) (h : RepL w base t L S) (hr : RRepL w tr LR S) (hin : Inv S 1000) :
    Calls Try.prog 25 #[.pointer (some ⟨t, 0, none⟩), .pointer (some ⟨tr, 0, none⟩)] w fun e w' => e = .returned (.bool true) ∧ Below w.heap.size w w' := by
  have H := Lib.hid (And.intro h (And.intro hr hin))
  clear h hr hin
  go_enter Try.func25, Try.ntmps25
  go_wp2
  go_loopw [5] (fun i wr => ∃ k : Nat, k ≤ 9 ∧ i = .int .i64 ((k : Int) - 1) ∧ Hid (Below w.heap.size w wr)) (fun i _ => (8 - intOf i).toNat)
  case atStart => exact ⟨0, by omega, rfl, Lib.hid (Below.refl _ _)⟩
  case round =>
    obtain ⟨k, hk, rfl, HB⟩ := hrel
    by_cases hlt : k < 9
    · have hlt' : (k : Int) - 1 < 8 := by omega
      have HP := Lib.hid (H.out.1.below HB.out)
      have HR := Lib.hid (H.out.2.1.below HB.out)
      have HI := Lib.hid H.out.2.2
      obtain ⟨i, hi⟩ : ∃ i : Int, (k : Int) - 1 = i := ⟨_, rfl⟩
      rw [hi] at hlt' ⊢
      have hi0 : -1 ≤ i := by omega
      have HIK := Lib.hid hi
      clear hi
      obtain ⟨⟨pa, pb⟩, hpp⟩ : ∃ q, pendingS S i = q := ⟨_, rfl⟩
      have C21 := Lib.hid (fun W (h : RepL W base t L S) => pend_calls i W h HI.out)
      have C53 := Lib.hid (fun W (h : RRepL W tr LR S) => rpendingP_calls i W h HI.out)
      rw [hpp] at C21 C53
      clear hpp
      obtain ⟨gg, hgg⟩ : ∃ q, gotS S i = q := ⟨_, rfl⟩
      have C26 := Lib.hid (fun W (h : RepL W base t L S) => got_calls i W h)
      have C54 := Lib.hid (fun W (h : RRepL W tr LR S) => rgot_calls i W h)
      rw [hgg] at C26 C54
      clear hgg
      go_wp2_with (first
        | (go_at_call 21; refine (C21.out _ HP.out).mono ?_; rintro e y1 ⟨rfl, hb⟩; replace HB := Lib.hid (below_then' HB.out hb); replace HP := Lib.hid (HP.out.below hb); replace HR := Lib.hid (HR.out.below hb); clear hb)
        | (go_at_call 53; refine (C53.out _ HR.out).mono ?_; rintro e y2 ⟨rfl, hb⟩; replace HB := Lib.hid (below_then' HB.out hb); replace HP := Lib.hid (HP.out.below hb); replace HR := Lib.hid (HR.out.below hb); clear hb)
        | (go_at_call 26; refine (C26.out _ HP.out).mono ?_; rintro e y3 ⟨rfl, rfl⟩)
        | (go_at_call 54; refine (C54.out _ HR.out).mono ?_; rintro e y4 ⟨rfl, rfl⟩))
      have hi := HIK.out
      go_roundw
      case rel => exact ⟨k + 1, by omega, by go_num, HB⟩
      case measure => simp [intOf]; omega
    · obtain rfl : k = 9 := by omega
      go_wp2
      go_ret
      exact ⟨rfl, HB.out⟩
/-- What a call answers. -/
def resS (S : St) (k th p s n : Int) (b : Nat) (v : Int) : Int × Nat × Int × Bool × (Int × Int × Int) × List (Int × Int × Int) × Int :=
  if k = 0 then (0, 0, 0, false, (0, 0, 0), [], (startS S th p).1)
  else if k = 1 then (0, 0, 0, false, (0, 0, 0), [], (endS S th).1)
  else if k = 2 then ((actionS S p s n).1.1, 0, 0, false, (0, 0, 0), [], (actionS S p s n).1.2)
  else if k = 3 then (0, (maskS S th n b).1.1, 0, false, (0, 0, 0), [], (maskS S th n b).1.2)
  else if k = 4 then (0, 0, 0, false, (0, 0, 0), (killS S th p s v).1.1, (killS S th p s v).1.2)
  else if k = 5 then ((waitS S th b).1.1, 0, (waitS S th b).1.2.1, (waitS S th b).1.2.2.1, (0, 0, 0), [], (waitS S th b).1.2.2.2)
  else if k = 6 then (0, 0, 0, (nextS S th).1.2, (nextS S th).1.1, [], 0)
  else if k = 7 then (0, 0, 0, (cancelS S th).1, (0, 0, 0), [], 0)
  else (0, 0, 0, false, (0, 0, 0), [], 0)
theorem call_res {base t : Nat} {L : Lay} {S : St} (k th p s n : Int) (b : Nat) (v : Int) (w : World) (h : RepL w base t L S) (hin : Inv S 1000) (hb64 : b < 18446744073709551616) :
    Calls Try.prog 18 #[.pointer (some ⟨t, 0, none⟩), .agg (opc k th p s n b v)] w fun e w' => CallPost base t (resS S k th p s n b v).1 (resS S k th p s n b v).2.1 (resS S k th p s n b v).2.2.1 (resS S k th p s n b v).2.2.2.1 (resS S k th p s n b v).2.2.2.2.1 (resS S k th p s n b v).2.2.2.2.2.1 (resS S k th p s n b v).2.2.2.2.2.2 (callS S k th p s n b v) w e w' := by
  by_cases hk : k < 0 ∨ 7 < k
  · have e1 : resS S k th p s n b v = (0, 0, 0, false, (0, 0, 0), [], 0) := by
      unfold resS
      rw [if_neg (by omega), if_neg (by omega), if_neg (by omega), if_neg (by omega), if_neg (by omega), if_neg (by omega), if_neg (by omega), if_neg (by omega)]
    have e2 : callS S k th p s n b v = S := by
      unfold callS
      rw [if_neg (by omega), if_neg (by omega), if_neg (by omega), if_neg (by omega), if_neg (by omega), if_neg (by omega), if_neg (by omega), if_neg (by omega)]
    rw [e1, e2]
    refine (call_o _ ⟨t, rfl⟩ k th p s n b v w hk).mono ?_
    rintro e w' ⟨rfl, hb⟩
    exact ⟨_, rfl, wk_nil _, After.below h hb⟩
  · obtain rfl | rfl | rfl | rfl | rfl | rfl | rfl | rfl : k = 0 ∨ k = 1 ∨ k = 2 ∨ k = 3 ∨ k = 4 ∨ k = 5 ∨ k = 6 ∨ k = 7 := by omega
    · exact call_0 th p s n b v w h hin hb64
    · exact call_1 th p s n b v w h hin hb64
    · exact call_2 th p s n b v w h hin hb64
    · exact call_3 th p s n b v w h hin hb64
    · exact call_4 th p s n b v w h hin hb64
    · exact call_5 th p s n b v w h hin hb64
    · exact call_6 th p s n b v w h hin hb64
    · exact call_7 th p s n b v w h hin hb64
theorem rcall_res {t : Nat} {L : RLay} {S : St} (k th p s n : Int) (b : Nat) (v : Int) (w : World) (h : RRepL w t L S) (hin : Inv S 1000) (hb64 : b < 18446744073709551616) :
    Calls Try.prog 24 #[.pointer (some ⟨t, 0, none⟩), .agg (opc k th p s n b v)] w fun e w' => RCallPost t (resS S k th p s n b v).1 (resS S k th p s n b v).2.1 (resS S k th p s n b v).2.2.1 (resS S k th p s n b v).2.2.2.1 (resS S k th p s n b v).2.2.2.2.1 (resS S k th p s n b v).2.2.2.2.2.1 (resS S k th p s n b v).2.2.2.2.2.2 (callS S k th p s n b v) w e w' := by
  by_cases hk : k < 0 ∨ 7 < k
  · have e1 : resS S k th p s n b v = (0, 0, 0, false, (0, 0, 0), [], 0) := by
      unfold resS
      rw [if_neg (by omega), if_neg (by omega), if_neg (by omega), if_neg (by omega), if_neg (by omega), if_neg (by omega), if_neg (by omega), if_neg (by omega)]
    have e2 : callS S k th p s n b v = S := by
      unfold callS
      rw [if_neg (by omega), if_neg (by omega), if_neg (by omega), if_neg (by omega), if_neg (by omega), if_neg (by omega), if_neg (by omega), if_neg (by omega)]
    rw [e1, e2]
    refine (rcall_o _ ⟨t, rfl⟩ k th p s n b v w hk).mono ?_
    rintro e w' ⟨rfl, hb⟩
    exact ⟨_, rfl, wk_nil _, RAfter.below h hb⟩
  · obtain rfl | rfl | rfl | rfl | rfl | rfl | rfl | rfl : k = 0 ∨ k = 1 ∨ k = 2 ∨ k = 3 ∨ k = 4 ∨ k = 5 ∨ k = 6 ∨ k = 7 := by omega
    · exact rcall_0 th p s n b v w h hin hb64
    · exact rcall_1 th p s n b v w h hin hb64
    · exact rcall_2 th p s n b v w h hin hb64
    · exact rcall_3 th p s n b v w h hin hb64
    · exact rcall_4 th p s n b v w h hin hb64
    · exact rcall_5 th p s n b v w h hin hb64
    · exact rcall_6 th p s n b v w h hin hb64
    · exact rcall_7 th p s n b v w h hin hb64
end Go.Proofs.Ytbpihfphoniclaa
namespace Go.Proofs.Ytbpihfphoniclaa
open Go.RowKit
set_option linter.unusedVariables false
/-- Both tables hold one state. -/
structure Both (base t tr : Nat) (S : St) (w X : World) : Prop where
  p : ∃ L, RepL X base t L S
  r : ∃ L, RRepL X tr L S
  b : Below w.heap.size w X
theorem Wk.rgrown {X Y : World} {v : Value} {l : List (Int × Int × Int)} {tr : Nat} {LR : RLay} {S : St} (h : Wk X v l) (hr : RRepL X tr LR S) (hg : X.grownBy Y (some tr)) : Wk Y v l := by
  refine h.kept fun g hgg => hg.block g (h.lt g hgg) ?_
  intro e
  cases e
  obtain ⟨cs, h1, _⟩ := hr.tab
  obtain ⟨cur, hc⟩ := h.ty _ hgg
  rw [h1] at hc
  cases hc
theorem box7 {X : World} {g : Nat} {k th p s n : Int} {b : Nat} {v : Int} (h : X.heap[g]? = some (.cells (opc k th p s n b v) 49 (0, 0))) : X.cell? ⟨g, 0, none⟩ = some (.int .i64 k) ∧ X.cell? ⟨g, 1, none⟩ = some (.int .i64 th) ∧ X.cell? ⟨g, 2, none⟩ = some (.int .i64 p) ∧ X.cell? ⟨g, 3, none⟩ = some (.int .i64 s) ∧ X.cell? ⟨g, 4, none⟩ = some (.int .i64 n) ∧ X.cell? ⟨g, 5, none⟩ = some (.int .u64 (b : Int)) ∧ X.cell? ⟨g, 6, none⟩ = some (.int .i64 v) := by
  refine ⟨?_, ?_, ?_, ?_, ?_, ?_, ?_⟩ <;> (rw [cell_of_row _ _ _ _ _ _ h]; rfl)
/-- A call of the program in a world that holds both. -/
theorem both_call {base t tr : Nat} {S S' : St} {w X Y : World} (h : Both base t tr S w X) (hb : base = w.heap.size) (ha : After base t S' X Y) : ∃ LR, RRepL Y tr LR S ∧ (∃ L, RepL Y base t L S') ∧ Below w.heap.size w Y := by
  obtain ⟨LR, hr⟩ := h.r
  subst hb
  exact ⟨LR, hr.fr ha.2, ha.1, h.b.trans ha.2.bel⟩
theorem both_rcall {base t tr : Nat} {S S' : St} {w Y Z : World} {LR : RLay} (hr : RRepL Y tr LR S) (hp : ∃ L, RepL Y base t L S') (hb : Below w.heap.size w Y) (htr : w.heap.size ≤ tr) (ha : RAfter tr S' Y Z) : Both base t tr S' w Z := by
  obtain ⟨L, hp⟩ := hp
  refine ⟨⟨L, hp.rgrown hr ha.2⟩, ha.1, ⟨ha.2.os.trans hb.os, ha.2.tape.trans hb.tape, ha.2.output.trans hb.output, Nat.le_trans hb.size ha.2.size, fun k hk => (ha.2.block k (Nat.lt_of_lt_of_le hk hb.size) ?_).trans (hb.block k hk)⟩⟩
  intro e
  cases e
  omega
theorem Both.below {base t tr : Nat} {S : St} {w X Y : World} (h : Both base t tr S w X) (hb : Below X.heap.size X Y) : Both base t tr S w Y := by
  obtain ⟨⟨L, h1⟩, ⟨LR, h2⟩, h3⟩ := h
  exact ⟨⟨L, h1.below hb⟩, ⟨LR, h2.below hb⟩, below_then' h3 hb⟩
theorem box_ne {X : World} {tr g : Nat} {LR : RLay} {S : St} (hr : RRepL X tr LR S) {cs : Array Value} (h : X.heap[g]? = some (.cells cs 49 (0, 0))) : (some g : Option Nat) ≠ some tr := by
  intro e
  cases e
  obtain ⟨cs2, h1, _⟩ := hr.tab
  rw [h] at h1
  cases h1
theorem seen_both {base t tr : Nat} {S : St} {w X : World} (h : Both base t tr S w X) (hin : Inv S 1000) : Calls Try.prog 25 #[.pointer (some ⟨t, 0, none⟩), .pointer (some ⟨tr, 0, none⟩)] X fun e w' => e = .returned (.bool true) ∧ Below X.heap.size X w' := by
  obtain ⟨⟨L, h1⟩, ⟨LR, h2⟩, _⟩ := h
  exact seen_calls X h1 h2 hin
set_option maxRecDepth 100000 in
set_option maxHeartbeats 8000000 in
theorem calls_law (A : Option Addr) (cap : Nat) (l : List OpT) (w : World) (hl : OC w A l) (h50 : l.length ≤ 50) :
    Calls Try.prog 7 #[.slice A l.length cap] w fun e w' => e = .returned (.bool true) ∧ Below w.heap.size w w' := by
  have HO := Lib.hid hl
  clear hl
  have hng : ¬ ((50 : Int) < (l.length : Int)) := by omega
  go_enter Try.func7, Try.ntmps7
  go_wp2_with fail
  refine (new_calls w).mono ?_
  rintro e w1 ⟨rfl, hr, hb⟩
  have HR1 := Lib.hid hr
  have HB1 := Lib.hid hb
  clear hr hb
  go_wp2_with fail
  refine (rnew_calls w1).mono ?_
  rintro e w2 ⟨rfl, hr, hb⟩
  have HBOTH : Hid (Both w.heap.size w.heap.size w1.heap.size S0 w w2) := Lib.hid ⟨⟨_, HR1.out.below hb⟩, ⟨_, hr⟩, below_then' HB1.out hb⟩
  have htr : w.heap.size ≤ w1.heap.size := HB1.out.size
  have HTR := Lib.hid htr
  clear hr hb HR1 HB1 htr
  obtain ⟨tp, htp⟩ : ∃ tp, w.heap.size = tp := ⟨_, rfl⟩
  have HTP := Lib.hid htp.symm
  obtain ⟨tr, htr⟩ : ∃ tr, w1.heap.size = tr := ⟨_, rfl⟩
  rw [htr] at HBOTH HTR ⊢
  clear htr
  have HBOTH : Hid (Both tp tp tr S0 w w2) := by rw [htp] at HBOTH; exact HBOTH
  rw [htp]
  clear htp
  go_wp2_with fail
  go_loopw [15] (fun i wr => ∃ k : Nat, ∃ S : St, k ≤ l.length ∧ i = .int .i64 k ∧ Hid (Both tp tp tr S w wr ∧ Inv S k)) (fun i _ => l.length - (intOf i).toNat)
  case atStart => exact ⟨0, S0, Nat.zero_le _, rfl, Lib.hid ⟨HBOTH.out, inv0⟩⟩
  case round =>
    obtain ⟨k, S, hk, rfl, HI⟩ := hrel
    by_cases hlt : k < l.length
    · obtain ⟨ad, rfl, hadl, hbo, hcell⟩ := (OC.below HO.out HI.out.1.b) k hlt
      unfold okO at hbo
      unfold opT at hcell
      generalize l.getD k o0 = oo at *
      obtain ⟨ok, ot, op, os, on, ob, ov⟩ := oo
      simp only at hbo hcell
      unfold opc at hcell
      have HCELL := Lib.hid hcell
      have hlt' : (k : Int) < (l.length : Int) := by omega
      clear hcell hadl
      go_wp2_with ((with_reducible change wpList _ _ _ (⟨_, .load 49 (.tmp 17), _, _, _, _⟩ :: _) _ _); go_loud (refine wpList_load_cells (by rfl) 49 (.tmp 17) rfl (ad.add (k * 7)) rfl #[.int .i64 ok, .int .i64 ot, .int .i64 op, .int .i64 os, .int .i64 on, .int .u64 ob, .int .i64 ov] _ HCELL.out Try.underlying49 rfl (n := 7) (by kernel_rfl) rfl ?_))
      have HX := Lib.hid (HI.out.1.below ((Below.refl wr.heap.size wr).alloc (Nat.le_refl _) (.cells (opc ok ot op os on ob ov) 49)))
      have hrow := heap_alloc_new wr (.cells (opc ok ot op os on ob ov) 49)
      have HIN := Lib.hid (HI.out.2.mono (show k ≤ 1000 by omega))
      have HIN2 := Lib.hid ((HI.out.2.callS ok ot op os on ob ov).mono (show k + 1 ≤ 1000 by omega))
      have HIK := Lib.hid (HI.out.2.callS ok ot op os on ob ov)
      have HOB := Lib.hid hbo
      unfold opc at HX hrow
      obtain ⟨g6, hg6⟩ : ∃ g, wr.heap.size = g := ⟨_, rfl⟩
      rw [hg6] at hrow ⊢
      obtain ⟨X, hX⟩ : ∃ X, wr.alloc (.cells #[.int .i64 ok, .int .i64 ot, .int .i64 op, .int .i64 os, .int .i64 on, .int .u64 ob, .int .i64 ov] 49) = X := ⟨_, rfl⟩
      rw [hX] at HX hrow ⊢
      clear hX hg6 HI hbo
      have HXD : Hid (Both tp tp tr S w X.drew) := Lib.hid ⟨HX.out.p.imp fun _ h => h.heap rfl, HX.out.r.imp fun _ h => h.drew, ⟨HX.out.b.os, HX.out.b.tape, HX.out.b.output, HX.out.b.size, HX.out.b.block⟩⟩
      have hrowd : X.drew.heap[g6]? = some (.cells (opc ok ot op os on ob ov) 49 (0, 0)) := hrow
      have HROWD := Lib.hid hrowd
      obtain ⟨b0, b1, b2, b3, b4, b5, b6⟩ := box7 hrowd
      have C18 : Hid (Calls Try.prog 18 #[.pointer (some ⟨tp, 0, none⟩), .agg (opc ok ot op os on ob ov)] X.drew fun e w' => CallPost tp tp (resS S ok ot op os on ob ov).1 (resS S ok ot op os on ob ov).2.1 (resS S ok ot op os on ob ov).2.2.1 (resS S ok ot op os on ob ov).2.2.2.1 (resS S ok ot op os on ob ov).2.2.2.2.1 (resS S ok ot op os on ob ov).2.2.2.2.2.1 (resS S ok ot op os on ob ov).2.2.2.2.2.2 (callS S ok ot op os on ob ov) X.drew e w') := Lib.hid (by
        obtain ⟨L, hp⟩ := HXD.out.p
        exact call_res ok ot op os on ob ov _ hp HIN.out HOB.out)
      have C24 : Hid (∀ (Y : World) (LR : RLay), RRepL Y tr LR S → Calls Try.prog 24 #[.pointer (some ⟨tr, 0, none⟩), .agg (opc ok ot op os on ob ov)] Y fun e w' => RCallPost tr (resS S ok ot op os on ob ov).1 (resS S ok ot op os on ob ov).2.1 (resS S ok ot op os on ob ov).2.2.1 (resS S ok ot op os on ob ov).2.2.2.1 (resS S ok ot op os on ob ov).2.2.2.2.1 (resS S ok ot op os on ob ov).2.2.2.2.2.1 (resS S ok ot op os on ob ov).2.2.2.2.2.2 (callS S ok ot op os on ob ov) Y e w') := Lib.hid fun Y LR hr => rcall_res ok ot op os on ob ov Y hr HIN.out HOB.out
      generalize callS S ok ot op os on ob ov = S1 at *
      obtain ⟨rs, hrs⟩ : ∃ rs, resS S ok ot op os on ob ov = rs := ⟨_, rfl⟩
      rw [hrs] at C18 C24
      clear hrs hrow hrowd HX
      obtain ⟨r0, r1, r2, r3, ⟨r40, r41, r42⟩, r5, r6⟩ := rs
      simp only at C18 C24
      unfold opc at C18 C24
      go_region_held3 (fun w' => w'.cell? ⟨g6, 0, none⟩ = some (.int .i64 ok) ∧ w'.cell? ⟨g6, 1, none⟩ = some (.int .i64 ot) ∧ w'.cell? ⟨g6, 2, none⟩ = some (.int .i64 op) ∧ w'.cell? ⟨g6, 3, none⟩ = some (.int .i64 os) ∧ w'.cell? ⟨g6, 4, none⟩ = some (.int .i64 on) ∧ w'.cell? ⟨g6, 5, none⟩ = some (.int .u64 (ob : Int)) ∧ w'.cell? ⟨g6, 6, none⟩ = some (.int .i64 ov))
        (first | exact box7 HB4.out | exact box7 HB3.out | exact box7 HB2.out | exact box7 HB1.out | exact box7 HROWD.out | go_keep)
        ((first
          | (go_at_call 18; refine C18.out.mono ?_; rintro e y1 ⟨wk1, rfl, hk1, ha1⟩; have HY1 := Lib.hid (And.intro (both_call HXD.out HTP.out ha1) hk1); have HB1 : Hid (y1.heap[g6]? = some (.cells (opc ok ot op os on ob ov) 49 (0, 0))) := Lib.hid (ha1.2.oth _ _ HROWD.out (by intro e he; cases he; decide)); clear ha1 hk1)
          | (go_at_call 24; obtain ⟨⟨LR, hrr, hpp, hbb⟩, hk1⟩ := HY1.out; refine (C24.out _ LR hrr).mono ?_; rintro e y2 ⟨wk2, rfl, hk2, ha2⟩; have HY2 := Lib.hid (And.intro (both_rcall hrr hpp hbb HTR.out ha2) (And.intro (hk1.rgrown hrr ha2.2) hk2)); have HB2 : Hid (y2.heap[g6]? = some (.cells (opc ok ot op os on ob ov) 49 (0, 0))) := Lib.hid ((ha2.2.block _ (Array.getElem?_eq_some_iff.1 HB1.out).1 (box_ne hrr HB1.out)).trans HB1.out); clear ha2 hk2 hk1 hrr hpp hbb)
          | (go_at_call 23; refine (equal_calls _ _ _ _ _ _ _ _ _ _ _ _ HY2.out.2.1 HY2.out.2.2).mono ?_; rintro e y3 ⟨rfl, hb3⟩; have HY3 := Lib.hid (HY2.out.1.below hb3); have HB3 : Hid (y3.heap[g6]? = some (.cells (opc ok ot op os on ob ov) 49 (0, 0))) := Lib.hid ((hb3.block _ (Array.getElem?_eq_some_iff.1 HB2.out).1).trans HB2.out); clear hb3)
          | (go_at_call 25; refine (seen_both HY3.out HIN2.out).mono ?_; rintro e y4 ⟨rfl, hb4⟩; have HY4 := Lib.hid (HY3.out.below hb4); have HB4 : Hid (y4.heap[g6]? = some (.cells (opc ok ot op os on ob ov) 49 (0, 0))) := Lib.hid ((hb4.block _ (Array.getElem?_eq_some_iff.1 HB3.out).1).trans HB3.out); clear hb4)))
      go_wp2
      go_roundw
      case rel => exact ⟨k + 1, S1, by omega, by go_num, Lib.hid ⟨HY4.out, HIK.out⟩⟩
      case measure => simp [intOf]; omega
    · obtain rfl : k = l.length := by omega
      have hge : ¬ ((l.length : Int) < (l.length : Int)) := by omega
      have HBL := Lib.hid HI.out.1.b
      go_wp2_with fail
      refine (awake_calls _).mono ?_
      rintro e wz ⟨rfl, hb⟩
      have HZ := Lib.hid (below_then' HBL.out hb)
      clear hb
      go_wp2
      go_ret
      exact ⟨rfl, HZ.out⟩
end Go.Proofs.Ytbpihfphoniclaa
