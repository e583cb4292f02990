/- The reference's rights: initial (50) and New (16). -/
import Derived.Test.YthccppldpfddjaaDoorC1
import Derived.Test.YthccppldpfddjaaDoorqP
import Derived.Test.YthccppldpfddjaaDoorQ5
import Derived.Test.YthccppldpfddjaaDoorB4
namespace Go.Proofs.YthccppldpfddjaaDoor
open Go.RowKit
set_option linter.unusedVariables false
theorem size105 : (Tryd.prog.info? 105).map (·.size) = some 3 := by kernel_rfl
theorem built109 : Tryd.prog.built 109 [] = some z192.toArray := by kernel_rfl
set_option maxHeartbeats 1000000 in
/-- The default right of a domain. -/
theorem initial_calls (d : Nat) (w : World) : Calls Tryd.prog 50 #[.int .i64 d] w fun e w' => ∃ v, e = .returned (.agg (rv v (stdR d))) ∧ Ls w' 116 v (stdR d).rs ∧ Below w.heap.size w w' := by
  have HB := Lib.hid ((Below.refl w.heap.size w).alloc (Nat.le_refl _) (.cells #[.slice none 0 0, .bool false, .bool false] 105))
  rcases Nat.eq_zero_or_pos d with rfl | hd
  · rw [show stdR 0 = ⟨[(0, MX)], false, false⟩ from rfl]
    go_enter Tryd.func50, Tryd.ntmps50
    go_wp2
    have hx : (w.alloc (.cells #[.slice (some ⟨w.heap.size + 1, 0, none⟩) 1 1, .bool false, .bool false] 105)).heap[w.heap.size]? = some (.cells #[.slice (some ⟨w.heap.size + 1, 0, none⟩) 1 1, .bool false, .bool false] 105 (0, 0)) := heap_alloc_new w _
    refine bodyPost_ret (v := .agg #[.slice (some ⟨w.heap.size + 1, 0, none⟩) 1 1, .bool false, .bool false]) (results_cell_row rfl _ _ w.heap.size 105 #[.slice (some ⟨w.heap.size + 1, 0, none⟩) 1 1, .bool false, .bool false] (0, 0) _ rfl ((Below.heap_alloc _ _ _ (by simp)).trans hx) Tryd.underlying105 rfl size105) rfl ?_
    refine ⟨_, rfl, ?_, ((Below.refl w.heap.size w).alloc (Nat.le_refl _) _).alloc (by simp) _⟩
    have := ls_new (w.alloc (.cells #[.slice (some ⟨w.heap.size + 1, 0, none⟩) 1 1, .bool false, .bool false] 105)) 116 [((0 : Int), MX)] (by simp [maxLen])
    simpa [pcells, MX] using this
  · have hd1 : ((d : Int) == 0) = false := by simp; omega
    rw [show stdR d = ⟨[], false, false⟩ by unfold stdR; rw [if_neg (by omega)]]
    go_enter Tryd.func50, Tryd.ntmps50
    go_wp2
    refine bodyPost_ret (v := .agg #[.slice none 0 0, .bool false, .bool false]) (results_cell_row rfl _ _ w.heap.size 105 #[.slice none 0 0, .bool false, .bool false] (0, 0) _ rfl (heap_alloc_new w _) Tryd.underlying105 rfl size105) rfl ?_
    exact ⟨_, rfl, ls_nil _ _, HB.out⟩
theorem rzero64 (w : World) : RArr 64 109 116 (w.alloc (.cells z192.toArray 109)) w.heap.size (fun _ => .slice none 0 0) (fun _ => ⟨[], false, false⟩) := by
  refine ⟨⟨_, heap_alloc_new w _, by unfold z192; rw [List.size_toArray, flat3_len], fun j hj => ?_⟩, fun i hi => ls_nil _ _⟩
  have := flat3 (.slice none 0 0) (.bool false) (.bool false) 64 j hj
  unfold z192 rcell
  rw [List.getElem?_toArray]
  exact this
structure RNJ (w : World) (k : Nat) (wr : World) : Prop where
  bel : Below w.heap.size w wr
  tab : ∃ lv, RArr 64 109 116 wr w.heap.size lv (newS k)
theorem RNJ.store {w : World} {k : Nat} {wr w2 : World} (h : RNJ w k wr) (hk : k < 64) (hb : Below wr.heap.size wr w2) {v : Value} (hv : Ls w2 116 v (stdR (k / 32)).rs) : RNJ w (k + 1) (set3 w2 w.heap.size (k * 3) v (.bool (stdR (k / 32)).lk) (.bool (stdR (k / 32)).inh)) := by
  obtain ⟨lv, h1⟩ := h.tab
  refine ⟨(h.bel.trans (hb.mono h.bel.size)).trans (set3_below _ _ _ _ (Nat.le_refl _)), upd lv k v, ?_⟩
  rw [← newS_succ]
  exact (h1.below hb).store (by decide) hk hv
set_option maxHeartbeats 4000000 in
set_option maxRecDepth 100000 in
theorem rnew_calls (w : World) : Calls Tryd.prog 16 #[] w fun e w' => e = .returned (.pointer (some ⟨w.heap.size, 0, none⟩)) ∧ (∃ lv, RArr 64 109 116 w' w.heap.size lv St0) ∧ Below w.heap.size w w' := by
  have HJ0 := Lib.hid (RNJ.mk (w := w) (k := 0) ((Below.refl _ w).alloc (Nat.le_refl _) _) ⟨_, (rzero64 w).congr (fun i _ => by simp [newS])⟩)
  go_enter Tryd.func16, Tryd.ntmps16
  go_wp2_with ((with_reducible change wpList _ _ _ (⟨_, .build 109 _, _, _, _, _⟩ :: _) _ _); refine wpList_build_to rfl 109 #[] rfl [] rfl z192.toArray built109 ?_)
  go_loopw [2] (fun i wr => ∃ d : Nat, d ≤ 2 ∧ i = .int .i64 d ∧ Hid (RNJ w (d * 32) wr)) (fun i _ => 2 - (intOf i).toNat)
  case atStart => exact ⟨0, by omega, rfl, HJ0⟩
  case round =>
    clear HJ0
    obtain ⟨d, hd, rfl, HJ⟩ := hrel
    by_cases hlt : d < 2
    · have hlt' : (d : Int) < 2 := by omega
      go_wp2
      go_loopw [3] (fun i wr => ∃ j : Nat, j ≤ 32 ∧ i = .int .i64 j ∧ Hid (RNJ w (d * 32 + j) wr)) (fun i _ => 32 - (intOf i).toNat)
      case atStart => exact ⟨0, by omega, rfl, HJ⟩
      case round =>
        clear HJ
        obtain ⟨j, hj, rfl, HI⟩ := hrel
        by_cases hjl : j < 32
        · have hjl' : (j : Int) < 32 := by omega
          go_wp2
          have HS := Lib.hid (initial_calls d wr.drew)
          have ho : d * 96 + j * 3 = (d * 32 + j) * 3 := by omega
          have HK := Lib.hid (show (d * 32 + j) / 32 = d from by omega)
          apply Ends.splitV (F := fun v w3 => ∃ w2 A c, Below wr.heap.size wr w2 ∧ v = .agg #[.slice A (stdR d).rs.length c, .bool (stdR d).lk, .bool (stdR d).inh] ∧ Ls w2 116 (.slice A (stdR d).rs.length c) (stdR d).rs ∧ w3 = set3 w2 w.heap.size ((d * 32 + j) * 3) (.slice A (stdR d).rs.length c) (.bool (stdR d).lk) (.bool (stdR d).inh))
          case walk =>
            refine wp_region_mid 9 [0, 1, 2, 3, 5, 6, 7] [4, 8] (fun w' => Below wr.heap.size wr w')
              [.pointer (some ⟨w.heap.size, 0, none⟩), .int .i64 d, .int .i64 j, .int .i64 d, .pointer (some ⟨w.heap.size, 0, none⟩), .pointer (some ⟨w.heap.size, 0, none⟩), .pointer (some ⟨w.heap.size, d * 96, none⟩)]
              (by rfl) (by kernel_rfl) (fun _ _ _ _ _ h => h) (Below.drew (Below.refl _ _)) ?heads ?_
            case heads =>
              refine ⟨.inl ⟨rfl, fun w' hw => ?_⟩, .inl ⟨rfl, fun w' hw => ?_⟩, .inl ⟨rfl, fun w' hw => ?_⟩, .inl ⟨rfl, fun w' hw => ?_⟩, .inl ⟨rfl, fun w' hw => ?_⟩, .inl ⟨rfl, fun w' hw => ?_⟩, .inl ⟨rfl, fun w' hw => ?_⟩, trivial⟩ <;>
                (show (execOp _ _).run Tryd.prog w' = _; go_simp)
            simp only [List.drop_succ_cons, List.drop_zero, putIdx, Act.put, List.getElem?_cons_zero, List.getElem?_cons_succ, List.setIfInBounds_toArray, List.set_cons_zero, List.set_cons_succ]
            refine wpMids_cons rfl fun K hK => ?_
            refine if_wanted rfl (step_call 50 _ _ rfl (fun _ _ => rfl) [.int .i64 d] rfl HS.out ?_)
            rintro e w2 ⟨v', rfl, h1, h2⟩
            obtain ⟨A', c', rfl, -, -, -, -⟩ := Rw.form h1
            have HB2 := Lib.hid (show Below wr.heap.size wr w2 from (Below.drew (Below.refl _ _)).trans h2)
            refine ⟨_, rfl, hK _ _ HB2.out ?_⟩
            obtain ⟨lv, hr⟩ := HI.out.tab
            have hc0 := (hr.below HB2.out).three (i := d * 32 + j) (by omega)
            have f0 := (hr.below HB2.out).frozen ((d * 32 + j) * 3)
            have f1 := (hr.below HB2.out).frozen ((d * 32 + j) * 3 + 1)
            have f2 := (hr.below HB2.out).frozen ((d * 32 + j) * 3 + 2)
            obtain ⟨c0, c1, c2⟩ := hc0
            have HX := Lib.hid h1
            clear h1 h2 hK K hr
            unfold rv
            try simp only [Act.put, List.setIfInBounds_toArray, List.set_cons_zero, List.set_cons_succ]
            refine wpMids_cons rfl fun K hK => ?_
            go_simp
            refine hK _ _ HB2.out ?_
            clear hK K
            try simp only [Act.put, List.setIfInBounds_toArray, List.set_cons_zero, List.set_cons_succ]
            refine wpMids_nil ?_
            go_wp2
            generalize hV : Value.agg #[Value.slice A' (stdR d).rs.length c', Value.bool (stdR d).lk, Value.bool (stdR d).inh] = V
            apply Ends.mk
            exact ⟨V, rfl, w2, A', c', HB2.out, hV.symm, HX.out, rfl⟩
          case imp =>
            rintro v w3 ⟨w2, A, c, hb, rfl, hv, rfl⟩
            have HN := Lib.hid (RNJ.store HI.out (by omega) hb (v := .slice A (stdR d).rs.length c) (by rw [HK.out]; exact hv))
            rw [HK.out] at HN
            clear hb hv HI HS
            go_wp2
            go_roundw
            case rel => exact ⟨j + 1, by omega, by go_num, HN⟩
            case measure => simp [intOf]; omega
        · obtain rfl : j = 32 := by omega
          go_wp2
          go_roundw
          case rel => exact ⟨d + 1, by omega, by go_num, Lib.hid (by rw [show (d + 1) * 32 = d * 32 + 32 by omega]; exact HI.out)⟩
          case measure => simp [intOf]; omega
    · obtain rfl : d = 2 := by omega
      go_wp2
      go_ret
      exact ⟨rfl, HJ.out.tab.imp fun lv h => h.congr (fun i hi => by simp [newS, St0]; omega), HJ.out.bel⟩
end Go.Proofs.YthccppldpfddjaaDoor
namespace Go.Proofs.YthccppldpfddjaaDoor
open Go.RowKit
set_option linter.unusedVariables false
theorem three_heap {w w1 : World} {A B C : Obj} (h : Below (((w.alloc A).alloc B).alloc C).heap.size (((w.alloc A).alloc B).alloc C) w1) : w1.heap[w.heap.size]? = some A ∧ w1.heap[w.heap.size + 2]? = some C ∧ Below w.heap.size w w1 := by
  refine ⟨?_, ?_, ?_⟩
  · exact (h.block _ (by simp; omega)).trans ((Below.heap_alloc _ _ _ (by simp; omega)).trans ((Below.heap_alloc _ _ _ (by simp)).trans (heap_alloc_new w A)))
  · have := heap_alloc_new ((w.alloc A).alloc B) C
    rw [World.size_alloc, World.size_alloc] at this
    exact (h.block _ (by simp)).trans this
  · exact ((((Below.refl w.heap.size w).alloc (Nat.le_refl _) A).alloc (by simp) B).alloc (by simp; omega) C).trans (h.mono (by simp; omega))
/-- What is left of after, whatever was stored into the box of the right. -/
theorem after_end {w w4 : World} {v4 : Value} {r' : Rt} {cs : Array Value} (hx : w4.heap[w.heap.size]? = some (.cells cs 105 (0, 0))) (hy : w4.heap[w.heap.size + 2]? = some (.cells #[.slice none 0 0, .bool false, .bool false] 105 (0, 0))) (hb : Below w.heap.size w w4) (hl : Ls w4 116 v4 r'.rs) (i : Nat) (u : Value) :
    (set3 (w4.setCell ⟨w.heap.size, i, none⟩ u) (w.heap.size + 2) 0 v4 (.bool r'.lk) (.bool r'.inh)).heap[w.heap.size + 2]? = some (.cells #[v4, .bool r'.lk, .bool r'.inh] 105 (0, 0)) ∧
    Ls (set3 (w4.setCell ⟨w.heap.size, i, none⟩ u) (w.heap.size + 2) 0 v4 (.bool r'.lk) (.bool r'.inh)) 116 v4 r'.rs ∧ Below w.heap.size w (set3 (w4.setCell ⟨w.heap.size, i, none⟩ u) (w.heap.size + 2) 0 v4 (.bool r'.lk) (.bool r'.inh)) := by
  have hy1 : (w4.setCell ⟨w.heap.size, i, none⟩ u).heap[w.heap.size + 2]? = some (.cells #[.slice none 0 0, .bool false, .bool false] 105 (0, 0)) := (Below.heap_setCell _ _ _ _ (by simp)).trans hy
  exact ⟨set3_row hy1 0 _ _ _, (hl.set hx (by decide) i u).set3 hy1 (by decide) 0 _ _ _, below_set3 (hb.setCell (by simp) _) _ _ _ _ _ (by omega)⟩
set_option maxHeartbeats 8000000 in
set_option maxRecDepth 100000 in
theorem rafter_calls (r : Rt) (v : Value) (o : OpA) (w : World) (h : Ls w 116 v r.rs) (hG : Good r.rs) (hlen : r.rs.length ≤ 1000) (ho : checkS o = 0) :
    Calls Tryd.prog 52 #[.agg (rv v r), .agg (opA o)] w fun e w' => ∃ v', e = .returned (.agg (rv v' (effS o.kind o.lo o.hi r))) ∧ Ls w' 116 v' (effS o.kind o.lo o.hi r).rs ∧ Below w.heap.size w w' := by
  obtain ⟨A, cap, rfl, -, -, -, -⟩ := Rw.form h
  obtain ⟨⟨k0, k1⟩, -, hb, -, -⟩ := checkS_ok ho
  obtain ⟨rs, lk, inh⟩ := r
  obtain ⟨ok, oa, od, ol, oh⟩ := o
  unfold rv opA
  simp only at *
  have HW := Lib.hid (fun W hW => rwith_calls (.slice A rs.length cap) rs ol oh W (Ls.below h hW) hG.1 hlen hb)
  have HO := Lib.hid (fun W hW => rwithout_calls (.slice A rs.length cap) rs ol oh W (Ls.below h hW) hlen (by unfold okR MX at hb; simp only at hb; omega) (by unfold okR MX at hb; simp only at hb; omega) (by unfold okR at hb; simp only at hb; omega))
  have HB := Lib.hid ((((Below.refl w.heap.size w).alloc (Nat.le_refl _) (.cells #[.slice A rs.length cap, .bool lk, .bool inh] 105)).alloc (by simp) (.cells #[.int .i64 ok, .int .i64 oa, .int .i64 od, .int .i64 ol, .int .i64 oh] 31)).alloc (by simp; omega) (.cells #[.slice none 0 0, .bool false, .bool false] 105))
  have HE := Lib.hid (refW_eq hG hb.2.1)
  simp only at HE
  have HL := Lib.hid h
  clear h hG hlen ho hb
  rcases (by omega : ok = 0 ∨ ok = 1 ∨ ok = 2 ∨ ok = 3 ∨ ok = 4) with rfl | rfl | rfl | rfl | rfl
  · rw [show effS 0 ol oh ⟨rs, lk, inh⟩ = ⟨withR rs ol oh, lk, inh⟩ from by simp [effS]]
    go_enter Tryd.func52, Tryd.ntmps52
    go_wp2_with (go_at_call 68; refine (HW.out _ HB.out).mono ?_; rintro e w1 ⟨v1, rfl, h1, h2⟩; rw [HE.out] at h1; obtain ⟨A1, cc1, rfl, -, -, -, -⟩ := Rw.form h1; obtain ⟨x1, x2, x3⟩ := three_heap h2; obtain ⟨c0, c1, c2⟩ := cells_three x1; obtain ⟨d0, d1, d2⟩ := cells_three x2; obtain ⟨f0, f1, f2⟩ := frozen_three x1; obtain ⟨g0, g1, g2⟩ := frozen_three x2; have HX := Lib.hid (And.intro x1 (And.intro x2 (And.intro x3 h1))); clear h1 h2 x1 x2 x3)
    obtain ⟨y1, y2, y3⟩ := after_end (v4 := .slice A1 (withR rs ol oh).length cc1) (r' := ⟨withR rs ol oh, lk, inh⟩) HX.out.1 HX.out.2.1 HX.out.2.2.1 HX.out.2.2.2 0 (.slice A1 (withR rs ol oh).length cc1)
    refine bodyPost_ret (v := .agg #[.slice A1 (withR rs ol oh).length cc1, .bool lk, .bool inh]) (results_cell_row rfl _ _ (w.heap.size + 2) 105 #[.slice A1 (withR rs ol oh).length cc1, .bool lk, .bool inh] (0, 0) _ rfl y1 Tryd.underlying105 rfl size105) rfl ?_
    exact ⟨_, rfl, y2, y3⟩
  · rw [show effS 1 ol oh ⟨rs, lk, inh⟩ = ⟨outS rs ol oh, lk, inh⟩ from by simp [effS]]
    go_enter Tryd.func52, Tryd.ntmps52
    go_wp2_with (go_at_call 56; refine (HO.out _ HB.out).mono ?_; rintro e w1 ⟨v1, rfl, h1, h2⟩; obtain ⟨A1, cc1, rfl, -, -, -, -⟩ := Rw.form h1; obtain ⟨x1, x2, x3⟩ := three_heap h2; obtain ⟨c0, c1, c2⟩ := cells_three x1; obtain ⟨d0, d1, d2⟩ := cells_three x2; obtain ⟨f0, f1, f2⟩ := frozen_three x1; obtain ⟨g0, g1, g2⟩ := frozen_three x2; have HX := Lib.hid (And.intro x1 (And.intro x2 (And.intro x3 h1))); clear h1 h2 x1 x2 x3)
    obtain ⟨y1, y2, y3⟩ := after_end (v4 := .slice A1 (outS rs ol oh).length cc1) (r' := ⟨outS rs ol oh, lk, inh⟩) HX.out.1 HX.out.2.1 HX.out.2.2.1 HX.out.2.2.2 0 (.slice A1 (outS rs ol oh).length cc1)
    refine bodyPost_ret (v := .agg #[.slice A1 (outS rs ol oh).length cc1, .bool lk, .bool inh]) (results_cell_row rfl _ _ (w.heap.size + 2) 105 #[.slice A1 (outS rs ol oh).length cc1, .bool lk, .bool inh] (0, 0) _ rfl y1 Tryd.underlying105 rfl size105) rfl ?_
    exact ⟨_, rfl, y2, y3⟩
  · rw [show effS 2 ol oh ⟨rs, lk, inh⟩ = ⟨rs, true, inh⟩ from by simp [effS]]
    go_enter Tryd.func52, Tryd.ntmps52
    obtain ⟨-, y1, y3⟩ := three_heap (w := w) (A := .cells #[.slice A rs.length cap, .bool true, .bool inh] 105) (B := .cells #[.int .i64 2, .int .i64 oa, .int .i64 od, .int .i64 ol, .int .i64 oh] 31) (C := .cells #[.slice A rs.length cap, .bool true, .bool inh] 105) (Below.refl _ _)
    have y2 := Ls.below HL.out y3
    have HY := Lib.hid (And.intro y1 (And.intro y2 y3))
    clear y1 y2 y3
    go_wp2
    obtain ⟨y1, y2, y3⟩ := HY.out
    refine bodyPost_ret (v := .agg #[.slice A rs.length cap, .bool true, .bool inh]) (results_cell_row rfl _ _ (w.heap.size + 2) 105 #[.slice A rs.length cap, .bool true, .bool inh] (0, 0) _ rfl y1 Tryd.underlying105 rfl size105) rfl ?_
    exact ⟨_, rfl, y2, y3⟩
  · rw [show effS 3 ol oh ⟨rs, lk, inh⟩ = ⟨rs, lk, true⟩ from by simp [effS]]
    go_enter Tryd.func52, Tryd.ntmps52
    obtain ⟨-, y1, y3⟩ := three_heap (w := w) (A := .cells #[.slice A rs.length cap, .bool lk, .bool true] 105) (B := .cells #[.int .i64 3, .int .i64 oa, .int .i64 od, .int .i64 ol, .int .i64 oh] 31) (C := .cells #[.slice A rs.length cap, .bool lk, .bool true] 105) (Below.refl _ _)
    have y2 := Ls.below HL.out y3
    have HY := Lib.hid (And.intro y1 (And.intro y2 y3))
    clear y1 y2 y3
    go_wp2
    obtain ⟨y1, y2, y3⟩ := HY.out
    refine bodyPost_ret (v := .agg #[.slice A rs.length cap, .bool lk, .bool true]) (results_cell_row rfl _ _ (w.heap.size + 2) 105 #[.slice A rs.length cap, .bool lk, .bool true] (0, 0) _ rfl y1 Tryd.underlying105 rfl size105) rfl ?_
    exact ⟨_, rfl, y2, y3⟩
  · rw [show effS 4 ol oh ⟨rs, lk, inh⟩ = ⟨rs, lk, false⟩ from by simp [effS]]
    go_enter Tryd.func52, Tryd.ntmps52
    obtain ⟨-, y1, y3⟩ := three_heap (w := w) (A := .cells #[.slice A rs.length cap, .bool lk, .bool false] 105) (B := .cells #[.int .i64 4, .int .i64 oa, .int .i64 od, .int .i64 ol, .int .i64 oh] 31) (C := .cells #[.slice A rs.length cap, .bool lk, .bool false] 105) (Below.refl _ _)
    have y2 := Ls.below HL.out y3
    have HY := Lib.hid (And.intro y1 (And.intro y2 y3))
    clear y1 y2 y3
    go_wp2
    obtain ⟨y1, y2, y3⟩ := HY.out
    refine bodyPost_ret (v := .agg #[.slice A rs.length cap, .bool lk, .bool false]) (results_cell_row rfl _ _ (w.heap.size + 2) 105 #[.slice A rs.length cap, .bool lk, .bool false] (0, 0) _ rfl y1 Tryd.underlying105 rfl size105) rfl ?_
    exact ⟨_, rfl, y2, y3⟩
end Go.Proofs.YthccppldpfddjaaDoor
namespace Go.Proofs.YthccppldpfddjaaDoor
open Go.RowKit
set_option linter.unusedVariables false
set_option maxHeartbeats 4000000 in
set_option maxRecDepth 100000 in
theorem rcheck_calls (o : OpA) (w : World) : Calls Tryd.prog 51 #[.agg (opA o)] w fun e w' => e = .returned (.int .i64 (checkS o)) ∧ Below w.heap.size w w' := by
  unfold opA
  by_cases a0 : o.kind < 0
  · skip
    have hv : checkS o = 17 := by unfold checkS MX; (repeat' split) <;> omega
    have d0 : decide (o.kind < 0) = true := by simp; omega
    rw [hv]
    clear hv a0
    go_enter Tryd.func51, Tryd.ntmps51
    go_wp2
    go_ret
    exact ⟨rfl, (Below.refl _ _).alloc (Nat.le_refl _) _⟩
  · skip
    by_cases a1 : 5 ≤ o.kind
    · skip
      have hv : checkS o = 17 := by unfold checkS MX; (repeat' split) <;> omega
      have d0 : decide (o.kind < 0) = false := by simp; omega
      have d1 : decide (5 ≤ o.kind) = true := by simp; omega
      rw [hv]
      clear hv a0 a1
      go_enter Tryd.func51, Tryd.ntmps51
      go_wp2
      go_ret
      exact ⟨rfl, (Below.refl _ _).alloc (Nat.le_refl _) _⟩
    · skip
      by_cases a2 : o.ab < 0
      · skip
        have hv : checkS o = 34 := by unfold checkS MX; (repeat' split) <;> omega
        have d0 : decide (o.kind < 0) = false := by simp; omega
        have d1 : decide (5 ≤ o.kind) = false := by simp; omega
        have d2 : decide (o.ab < 0) = true := by simp; omega
        rw [hv]
        clear hv a0 a1 a2
        go_enter Tryd.func51, Tryd.ntmps51
        go_wp2
        go_ret
        exact ⟨rfl, (Below.refl _ _).alloc (Nat.le_refl _) _⟩
      · skip
        by_cases a3 : 32 ≤ o.ab
        · skip
          have hv : checkS o = 34 := by unfold checkS MX; (repeat' split) <;> omega
          have d0 : decide (o.kind < 0) = false := by simp; omega
          have d1 : decide (5 ≤ o.kind) = false := by simp; omega
          have d2 : decide (o.ab < 0) = false := by simp; omega
          have d3 : decide (32 ≤ o.ab) = true := by simp; omega
          rw [hv]
          clear hv a0 a1 a2 a3
          go_enter Tryd.func51, Tryd.ntmps51
          go_wp2
          go_ret
          exact ⟨rfl, (Below.refl _ _).alloc (Nat.le_refl _) _⟩
        · skip
          by_cases a4 : o.lo < 0
          · skip
            have hv : checkS o = 34 := by unfold checkS MX; (repeat' split) <;> omega
            have d0 : decide (o.kind < 0) = false := by simp; omega
            have d1 : decide (5 ≤ o.kind) = false := by simp; omega
            have d2 : decide (o.ab < 0) = false := by simp; omega
            have d3 : decide (32 ≤ o.ab) = false := by simp; omega
            have d4 : decide (o.lo < 0) = true := by simp; omega
            rw [hv]
            clear hv a0 a1 a2 a3 a4
            go_enter Tryd.func51, Tryd.ntmps51
            go_wp2
            go_ret
            exact ⟨rfl, (Below.refl _ _).alloc (Nat.le_refl _) _⟩
          · skip
            by_cases a5 : o.hi < o.lo
            · skip
              have hv : checkS o = 34 := by unfold checkS MX; (repeat' split) <;> omega
              have d0 : decide (o.kind < 0) = false := by simp; omega
              have d1 : decide (5 ≤ o.kind) = false := by simp; omega
              have d2 : decide (o.ab < 0) = false := by simp; omega
              have d3 : decide (32 ≤ o.ab) = false := by simp; omega
              have d4 : decide (o.lo < 0) = false := by simp; omega
              have d5 : decide (o.hi < o.lo) = true := by simp; omega
              rw [hv]
              clear hv a0 a1 a2 a3 a4 a5
              go_enter Tryd.func51, Tryd.ntmps51
              go_wp2
              go_ret
              exact ⟨rfl, (Below.refl _ _).alloc (Nat.le_refl _) _⟩
            · skip
              by_cases a6 : 1099511627776 < o.hi
              · skip
                have hv : checkS o = 34 := by unfold checkS MX; (repeat' split) <;> omega
                have d0 : decide (o.kind < 0) = false := by simp; omega
                have d1 : decide (5 ≤ o.kind) = false := by simp; omega
                have d2 : decide (o.ab < 0) = false := by simp; omega
                have d3 : decide (32 ≤ o.ab) = false := by simp; omega
                have d4 : decide (o.lo < 0) = false := by simp; omega
                have d5 : decide (o.hi < o.lo) = false := by simp; omega
                have d6 : decide (1099511627776 < o.hi) = true := by simp; omega
                rw [hv]
                clear hv a0 a1 a2 a3 a4 a5 a6
                go_enter Tryd.func51, Tryd.ntmps51
                go_wp2
                go_ret
                exact ⟨rfl, (Below.refl _ _).alloc (Nat.le_refl _) _⟩
              · skip
                by_cases a7 : 1 < o.kind
                · by_cases a8 : o.lo ≠ 0
                  · skip
                    have hv : checkS o = 34 := by unfold checkS MX; (repeat' split) <;> omega
                    have d0 : decide (o.kind < 0) = false := by simp; omega
                    have d1 : decide (5 ≤ o.kind) = false := by simp; omega
                    have d2 : decide (o.ab < 0) = false := by simp; omega
                    have d3 : decide (32 ≤ o.ab) = false := by simp; omega
                    have d4 : decide (o.lo < 0) = false := by simp; omega
                    have d5 : decide (o.hi < o.lo) = false := by simp; omega
                    have d6 : decide (1099511627776 < o.hi) = false := by simp; omega
                    have d7 : decide (1 < o.kind) = true := by simp; omega
                    have d8 : (o.lo != 0) = true := by simp; omega
                    have e8 : decide (o.hi < 0) = false := by simp; omega
                    rw [hv]
                    clear hv a0 a1 a2 a3 a4 a5 a6 a7 a8
                    go_enter Tryd.func51, Tryd.ntmps51
                    go_wp2
                    go_ret
                    exact ⟨rfl, (Below.refl _ _).alloc (Nat.le_refl _) _⟩
                  · by_cases a9 : o.hi ≠ 0
                    · skip
                      have hv : checkS o = 34 := by unfold checkS MX; (repeat' split) <;> omega
                      have d0 : decide (o.kind < 0) = false := by simp; omega
                      have d1 : decide (5 ≤ o.kind) = false := by simp; omega
                      have d2 : decide (o.ab < 0) = false := by simp; omega
                      have d3 : decide (32 ≤ o.ab) = false := by simp; omega
                      have d4 : decide (o.lo < 0) = false := by simp; omega
                      have d5 : decide (o.hi < o.lo) = false := by simp; omega
                      have d6 : decide (1099511627776 < o.hi) = false := by simp; omega
                      have d7 : decide (1 < o.kind) = true := by simp; omega
                      have d8 : o.lo = 0 := by omega
                      have d9 : (o.hi != 0) = true := by simp; omega
                      have e9 : decide (o.hi < 0) = false := by simp; omega
                      rw [hv]
                      clear hv a0 a1 a2 a3 a4 a5 a6 a7 a8 a9
                      go_enter Tryd.func51, Tryd.ntmps51
                      go_wp2
                      go_ret
                      exact ⟨rfl, (Below.refl _ _).alloc (Nat.le_refl _) _⟩
                    · skip
                      by_cases a10 : o.dom < 1
                      · skip
                        have hv : checkS o = 14 := by unfold checkS MX; (repeat' split) <;> omega
                        have d0 : decide (o.kind < 0) = false := by simp; omega
                        have d1 : decide (5 ≤ o.kind) = false := by simp; omega
                        have d2 : decide (o.ab < 0) = false := by simp; omega
                        have d3 : decide (32 ≤ o.ab) = false := by simp; omega
                        have d4 : decide (o.lo < 0) = false := by simp; omega
                        have d5 : decide (o.hi < o.lo) = false := by simp; omega
                        have d6 : decide (1099511627776 < o.hi) = false := by simp; omega
                        have d7 : decide (1 < o.kind) = true := by simp; omega
                        have d8 : o.lo = 0 := by omega
                        have d9 : o.hi = 0 := by omega
                        have d10 : decide (o.dom < 1) = true := by simp; omega
                        rw [hv]
                        clear hv a0 a1 a2 a3 a4 a5 a6 a7 a8 a9 a10
                        go_enter Tryd.func51, Tryd.ntmps51
                        go_wp2
                        go_ret
                        exact ⟨rfl, (Below.refl _ _).alloc (Nat.le_refl _) _⟩
                      · skip
                        by_cases a11 : 3 < o.dom
                        · skip
                          have hv : checkS o = 14 := by unfold checkS MX; (repeat' split) <;> omega
                          have d0 : decide (o.kind < 0) = false := by simp; omega
                          have d1 : decide (5 ≤ o.kind) = false := by simp; omega
                          have d2 : decide (o.ab < 0) = false := by simp; omega
                          have d3 : decide (32 ≤ o.ab) = false := by simp; omega
                          have d4 : decide (o.lo < 0) = false := by simp; omega
                          have d5 : decide (o.hi < o.lo) = false := by simp; omega
                          have d6 : decide (1099511627776 < o.hi) = false := by simp; omega
                          have d7 : decide (1 < o.kind) = true := by simp; omega
                          have d8 : o.lo = 0 := by omega
                          have d9 : o.hi = 0 := by omega
                          have d10 : decide (o.dom < 1) = false := by simp; omega
                          have d11 : decide (3 < o.dom) = true := by simp; omega
                          rw [hv]
                          clear hv a0 a1 a2 a3 a4 a5 a6 a7 a8 a9 a10 a11
                          go_enter Tryd.func51, Tryd.ntmps51
                          go_wp2
                          go_ret
                          exact ⟨rfl, (Below.refl _ _).alloc (Nat.le_refl _) _⟩
                        · skip
                          have hv : checkS o = 0 := by unfold checkS MX; (repeat' split) <;> omega
                          have d0 : decide (o.kind < 0) = false := by simp; omega
                          have d1 : decide (5 ≤ o.kind) = false := by simp; omega
                          have d2 : decide (o.ab < 0) = false := by simp; omega
                          have d3 : decide (32 ≤ o.ab) = false := by simp; omega
                          have d4 : decide (o.lo < 0) = false := by simp; omega
                          have d5 : decide (o.hi < o.lo) = false := by simp; omega
                          have d6 : decide (1099511627776 < o.hi) = false := by simp; omega
                          have d7 : decide (1 < o.kind) = true := by simp; omega
                          have d8 : o.lo = 0 := by omega
                          have d9 : o.hi = 0 := by omega
                          have d10 : decide (o.dom < 1) = false := by simp; omega
                          have d11 : decide (3 < o.dom) = false := by simp; omega
                          rw [hv]
                          clear hv a0 a1 a2 a3 a4 a5 a6 a7 a8 a9 a10 a11
                          go_enter Tryd.func51, Tryd.ntmps51
                          go_wp2
                          go_ret
                          exact ⟨rfl, (Below.refl _ _).alloc (Nat.le_refl _) _⟩
                · skip
                  by_cases a8 : o.dom < 1
                  · skip
                    have hv : checkS o = 14 := by unfold checkS MX; (repeat' split) <;> omega
                    have d0 : decide (o.kind < 0) = false := by simp; omega
                    have d1 : decide (5 ≤ o.kind) = false := by simp; omega
                    have d2 : decide (o.ab < 0) = false := by simp; omega
                    have d3 : decide (32 ≤ o.ab) = false := by simp; omega
                    have d4 : decide (o.lo < 0) = false := by simp; omega
                    have d5 : decide (o.hi < o.lo) = false := by simp; omega
                    have d6 : decide (1099511627776 < o.hi) = false := by simp; omega
                    have d7 : decide (1 < o.kind) = false := by simp; omega
                    have d8 : decide (o.dom < 1) = true := by simp; omega
                    rw [hv]
                    clear hv a0 a1 a2 a3 a4 a5 a6 a7 a8
                    go_enter Tryd.func51, Tryd.ntmps51
                    go_wp2
                    go_ret
                    exact ⟨rfl, (Below.refl _ _).alloc (Nat.le_refl _) _⟩
                  · skip
                    by_cases a9 : 3 < o.dom
                    · skip
                      have hv : checkS o = 14 := by unfold checkS MX; (repeat' split) <;> omega
                      have d0 : decide (o.kind < 0) = false := by simp; omega
                      have d1 : decide (5 ≤ o.kind) = false := by simp; omega
                      have d2 : decide (o.ab < 0) = false := by simp; omega
                      have d3 : decide (32 ≤ o.ab) = false := by simp; omega
                      have d4 : decide (o.lo < 0) = false := by simp; omega
                      have d5 : decide (o.hi < o.lo) = false := by simp; omega
                      have d6 : decide (1099511627776 < o.hi) = false := by simp; omega
                      have d7 : decide (1 < o.kind) = false := by simp; omega
                      have d8 : decide (o.dom < 1) = false := by simp; omega
                      have d9 : decide (3 < o.dom) = true := by simp; omega
                      rw [hv]
                      clear hv a0 a1 a2 a3 a4 a5 a6 a7 a8 a9
                      go_enter Tryd.func51, Tryd.ntmps51
                      go_wp2
                      go_ret
                      exact ⟨rfl, (Below.refl _ _).alloc (Nat.le_refl _) _⟩
                    · skip
                      have hv : checkS o = 0 := by unfold checkS MX; (repeat' split) <;> omega
                      have d0 : decide (o.kind < 0) = false := by simp; omega
                      have d1 : decide (5 ≤ o.kind) = false := by simp; omega
                      have d2 : decide (o.ab < 0) = false := by simp; omega
                      have d3 : decide (32 ≤ o.ab) = false := by simp; omega
                      have d4 : decide (o.lo < 0) = false := by simp; omega
                      have d5 : decide (o.hi < o.lo) = false := by simp; omega
                      have d6 : decide (1099511627776 < o.hi) = false := by simp; omega
                      have d7 : decide (1 < o.kind) = false := by simp; omega
                      have d8 : decide (o.dom < 1) = false := by simp; omega
                      have d9 : decide (3 < o.dom) = false := by simp; omega
                      rw [hv]
                      clear hv a0 a1 a2 a3 a4 a5 a6 a7 a8 a9
                      go_enter Tryd.func51, Tryd.ntmps51
                      go_wp2
                      go_ret
                      exact ⟨rfl, (Below.refl _ _).alloc (Nat.le_refl _) _⟩
end Go.Proofs.YthccppldpfddjaaDoor
