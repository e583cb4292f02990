import Derived.Test.YtmmhflpeapojgaaA9
import Derived.Outline
namespace Go.Proofs.Ytmmhflpeapojgaa
set_option linter.unusedVariables false
set_option linter.unusedSimpArgs false
open Go.RowKit Ieee
attribute [local go_sem] ints_get ints_size ints_getElem

theorem below_drewN {B : Nat} {a w : World} (h : Below B a w) (n : Nat) : Below B a (w.drewN n) := ⟨h.os, h.tape, h.output, h.size, h.block⟩
theorem heap_kept {w w1 : World} {g : Nat} {o : Obj} (h : w.heap[g]? = some o) (hb : Below w.heap.size w w1) : w1.heap[g]? = some o :=
  (hb.block g (Array.getElem?_eq_some_iff.1 h).1).trans h
theorem incTo_false {ts : List Int} : ∀ {m k : Nat}, k ≤ m → incTo ts k = false → incTo ts m = false
  | 0, k, h, hf => by obtain rfl : k = 0 := by omega
                      exact hf
  | m + 1, k, h, hf => by
    rcases Nat.lt_or_ge m k with q | q
    · obtain rfl : k = m + 1 := by omega
      exact hf
    · simp only [incTo, incTo_false q hf, Bool.false_and]
theorem conv_int3 (x : Nat) (n : Int) (h : (fmt.read x).toInt .zero = some n) (h0 : -9223372036854775808 ≤ n) (h1 : n ≤ 9223372036854775807) (W : World) : (convert 27 3 (.float .f32 x)).run Try.prog W = .ok (.int .i64 n) W :=
  run_convert_float_int W 27 3 .f32 .i64 x n (by kernel_rfl) Try.underlying3 (toIntVal h h0 h1)
theorem zeroG_one : zeroG.all (·.oneCell') = true := by simp [zeroG, Value.oneCell']
theorem scode_zero {l : List Nat} (h : scode l = 0) : l.length ≤ 4096 ∧ l.all sampleB = true := by
  unfold scode at h
  split at h
  · cases h
  · split at h
    · exact ⟨by omega, by assumption⟩
    · cases h
set_option maxHeartbeats 4000000 in
set_option maxRecDepth 100000 in
theorem measure_good (A : Option Addr) (c : Nat) (l : List Nat) (B : Option Addr) (cb : Nat) (ts : List Int) (w : World) (hC : FC w A l) (hT : IC w B ts) (hlt : ∀ x ∈ l, x < 4294967296)
    (hsc : scode l = 0) (h0 : 0 < l.length) (h16 : ts.length ≤ 16) (hall : ts.all inB = true) :
    Calls Try.prog 7 #[.slice A l.length c, .slice B ts.length cb] w fun e w' => MPost l ts w e w' := by
  obtain ⟨hl, hs⟩ := scode_zero hsc
  have HSL := Lib.hid (SL.mk hs hlt)
  have HC := Lib.hid hC
  have HT := Lib.hid hT
  have HB := Lib.hid ((Below.refl w.heap.size w).alloc (Nat.le_refl _) (.cells #[.int .i64 0, .float .f32 0, .float .f32 0, .int .i64 0, .int .i64 0, .int .i64 0] 29))
  have HH := Lib.hid (heap_alloc_new w (.cells #[.int .i64 0, .float .f32 0, .float .f32 0, .int .i64 0, .int .i64 0, .int .i64 0] 29))
  have hc0 : incTo ts ts.length = false → mcode l ts = 30 := fun h => by unfold mcode; rw [if_neg (by simpa using hsc), if_neg (by omega), if_neg (by omega), if_neg (by rw [hall]; simp), if_pos h]
  have hc1 : incTo ts ts.length = true → mcode l ts = 0 := fun h => by unfold mcode; rw [if_neg (by simpa using hsc), if_neg (by omega), if_neg (by omega), if_neg (by rw [hall]; simp), if_neg (by rw [h]; simp)]
  have HM := Lib.hid (And.intro hc0 hc1)
  have HSC := Lib.hid hsc
  have HALL := Lib.hid hall
  have hl1 : ((l.length : Int) == 0) = false := beq_eq_false_iff_ne.2 (by omega)
  have h3' : ¬ (16 : Int) < (ts.length : Int) := by omega
  clear hC hT hs hlt hc0 hc1 hsc hall
  go_enter Try.func7, Try.ntmps7
  go_wp2_with (first
    | (go_at_call 18; refine (samples_calls A c l _ (by omega) (HC.out.below HB.out)).mono ?_; rw [HSC.out]; rintro e w' ⟨rfl, rfl⟩)
    | (go_at_call 21; refine (contains21 B cb ts _ h16 (HT.out.below HB.out)).mono ?_; rw [HALL.out]; rintro e w' ⟨rfl, rfl⟩))
  generalize (w.alloc (.cells #[.int .i64 0, .float .f32 0, .float .f32 0, .int .i64 0, .int .i64 0, .int .i64 0] 29)) = W0 at *
  go_loopw [7] (fun i wr => ∃ k : Nat, 1 ≤ k ∧ i = .int .i64 k ∧ Hid (incTo ts k = true ∧ (k ≤ ts.length ∨ k = 1) ∧ Below W0.heap.size W0 wr)) (fun i _ => ts.length - (intOf i).toNat)
  case atStart => exact ⟨1, by omega, rfl, Lib.hid ⟨by simp [incTo], .inr rfl, Below.refl _ _⟩⟩
  case round =>
    obtain ⟨k, hk1, rfl, HI⟩ := hrel
    by_cases hlt : k < ts.length
    · have hlt' : (k : Int) < (ts.length : Int) := by omega
      obtain ⟨ad, rfl, hcA⟩ := HT.out.below (below_then' HB.out HI.out.2.2) (k - 1) (by omega)
      obtain ⟨ad', e, hcB⟩ := HT.out.below (below_then' HB.out HI.out.2.2) k hlt
      cases e
      have hsn : incTo ts (k + 1) = decide (ts.getD (k - 1) 0 < ts.getD k 0) := by
        simp only [incTo, HI.out.1, Bool.true_and]
        exact decide_eq_decide.2 ⟨fun h => by omega, fun h => .inr h⟩
      generalize ts.getD (k - 1) 0 = p at *
      generalize ts.getD k 0 = q at *
      have hk0 : (0 : Int) ≤ (k : Int) - 1 := by omega
      have hk2 : (k : Int) - 1 < (ts.length : Int) := by omega
      have hw1 : IntKind.i64.wrap ((k : Int) - 1) = (k : Int) - 1 := by rw [IntKind.wrap_i64]; omega
      have hkt : ((k : Int) - 1).toNat = k - 1 := by omega
      have HSN := Lib.hid hsn
      clear hsn
      by_cases hpq : p < q
      · have hpq' : ¬ q ≤ p := by omega
        have hb : decide (q ≤ p) = false := by simp; omega
        go_wp2
        go_quiet (fail)
        go_wp2
        go_roundw
        case rel => exact ⟨k + 1, by omega, by go_num, Lib.hid ⟨by rw [HSN.out]; exact decide_eq_true hpq, .inl (by omega), below_drewN HI.out.2.2 _⟩⟩
        case measure => simp [intOf]; omega
      · have hpq' : q ≤ p := by omega
        have hb : decide (q ≤ p) = true := by simp; omega
        have HF : Hid (mcode l ts = 30) := Lib.hid (HM.out.1 (incTo_false (m := ts.length) (k := k + 1) (by omega) (by rw [HSN.out]; exact decide_eq_false hpq)))
        go_wp2
        go_quiet (fail)
        go_wp2_with ((with_reducible change wpList _ _ _ (⟨_, .store 29 (.tmp 4) (.tmp 50), _, _, _, _⟩ :: _) _ _); go_loud (refine wpList_store_row rfl 29 (.tmp 4) (.tmp 50) rfl w.heap.size zeroG rfl rfl 29 _ (heap_kept HH.out (below_drewN HI.out.2.2 nq)) (by kernel_rfl) rfl zeroG_one ?_))
        refine bodyPost_ret (results_cell_tmp_row rfl _ _ w.heap.size 29 zeroG (0, 0) _ rfl (setRow_heap _ _ _ _ _ _ (heap_kept HH.out (below_drewN HI.out.2.2 nq))) Try.underlying29 rfl (by kernel_rfl)) rfl ?_
        exact MPost.bad HF.out (by decide) rfl (below_setRow (below_then' HB.out (below_drewN HI.out.2.2 nq)) (Nat.le_refl _) _)
    · have hge : ¬ (k : Int) < (ts.length : Int) := by omega
      have HF : Hid (mcode l ts = 0) := Lib.hid (HM.out.2 (by
        rcases HI.out.2.1 with h | h
        · have : k = ts.length := by omega
          rw [← this]; exact HI.out.1
        · rcases Nat.eq_zero_or_pos ts.length with q | q
          · rw [q]; rfl
          · have : k = ts.length := by omega
            rw [← this]; exact HI.out.1))
      have hcl := fun W hb => min_calls A c l W h0 hl HSL.out (HC.out.below (below_then' HB.out hb))
      have hcm := fun W hb => max_calls A c l W h0 hl HSL.out (HC.out.below (below_then' HB.out hb))
      have HCL := Lib.hid (And.intro hcl hcm)
      clear hcl hcm
      have hlb := least_bound HSL.out.bound l.length
      have hmb := most_bound HSL.out.bound l.length
      go_wp2_with (first
        | (go_at_call 24; refine (HCL.out.1 _ HI.out.2.2).mono ?_; intro e w' hp; obtain ⟨r1, rfl, hr1, rfl⟩ := hp; have HR1 := Lib.hid hr1; clear hr1)
        | (go_at_call 25; refine (HCL.out.2 _ HI.out.2.2).mono ?_; intro e w' hp; obtain ⟨r2, rfl, hr2, rfl⟩ := hp; have HR2 := Lib.hid hr2; clear hr2)
        | (go_at_call 23; refine (plus_calls _ _).mono ?_; rintro e w' ⟨rfl, rfl⟩))
      have hq1 : plusW r1 = F fmt (least (nums l) l.length) := plusW_G HR1.out (small_of (by omega))
      have hq2 : plusW r2 = F fmt (most (nums l) l.length) := plusW_G HR2.out (small_of (by omega))
      have HQ := Lib.hid (And.intro hq1 hq2)
      clear hq1 hq2 hlb hmb
      generalize plusW r1 = a1 at *
      generalize plusW r2 = a2 at *
      obtain ⟨w5, rfl⟩ : ∃ w5 : World, w5 = wr := ⟨_, rfl⟩
      have h5 := (HI.out.2.2.alloc HI.out.2.2.size (.cells #[.int .i64 l.length, .float .f32 a1, .float .f32 a2, .int .i64 0, .int .i64 0, .int .i64 0] 29))
      have H5 : Hid (Below W0.heap.size W0 (w5.alloc (.cells #[.int .i64 l.length, .float .f32 a1, .float .f32 a2, .int .i64 0, .int .i64 0, .int .i64 0] 29)) ∧ (w5.alloc (.cells #[.int .i64 l.length, .float .f32 a1, .float .f32 a2, .int .i64 0, .int .i64 0, .int .i64 0] 29)).heap[w5.heap.size]? = some (.cells #[.int .i64 l.length, .float .f32 a1, .float .f32 a2, .int .i64 (sumTo (nums l) 0), .int .i64 (sqTo (nums l) 0), .int .i64 0] 29 (0, 0))) := Lib.hid ⟨h5, heap_alloc_new w5 _⟩
      have hW0 := HI.out.2.2.size
      clear h5
      go_loopw [62] (fun i wr => ∃ k : Nat, k ≤ l.length ∧ i = .int .i64 k ∧ Hid (Below W0.heap.size W0 wr ∧ wr.heap[w5.heap.size]? = some (.cells #[.int .i64 l.length, .float .f32 a1, .float .f32 a2, .int .i64 (sumTo (nums l) k), .int .i64 (sqTo (nums l) k), .int .i64 0] 29 (0, 0)))) (fun i _ => l.length - (intOf i).toNat)
      case atStart => exact ⟨0, Nat.zero_le _, rfl, H5⟩
      case round =>
        obtain ⟨j, hj, rfl, HJ⟩ := hrel
        by_cases hjl : j < l.length
        · have hjl' : (j : Int) < (l.length : Int) := by omega
          obtain ⟨ad, rfl, hcx⟩ := HC.out.below (below_then' HB.out HJ.out.1) j hjl
          have hgj := HSL.out.get hjl
          obtain ⟨hv, hv1, hv2⟩ := sample_V hgj.1
          have hcv := conv_int (l.getD j 0) (smpN (l.getD j 0)) (toInt_V hv) (by omega) (by omega)
          have hs1 : sumTo (nums l) (j + 1) = sumTo (nums l) j + smpN (l.getD j 0) := by simp only [sumTo]; rw [nums_get l j hjl]
          have hs2 : sqTo (nums l) (j + 1) = sqTo (nums l) j + smpN (l.getD j 0) * smpN (l.getD j 0) := by simp only [sqTo]; rw [nums_get l j hjl]
          have hb1 := sumTo_bound HSL.out.bound j
          have hb2 := sqTo_bound HSL.out.bound j
          have hb3 := sq_bound ⟨hv1, hv2⟩
          have hc3 := cell_of_row _ _ 3 _ _ _ HJ.out.2
          have hc4 := cell_of_row _ _ 4 _ _ _ HJ.out.2
          have hf3 := frozen_of_row _ _ 3 _ _ HJ.out.2
          have hf4 := frozen_of_row _ _ 4 _ _ HJ.out.2
          generalize smpN (l.getD j 0) = n at *
          generalize l.getD j 0 = x at *
          generalize sumTo (nums l) j = sm at *
          generalize sqTo (nums l) j = sq at *
          have hwq : IntKind.i64.wrap (n * n) = n * n := by rw [IntKind.wrap_i64]; omega
          have HS := Lib.hid (And.intro hs1 hs2)
          clear hs1 hs2 hgj hv
          simp at hc3 hc4
          obtain ⟨m2, hm2⟩ : ∃ m2, n * n = m2 := ⟨_, rfl⟩
          have hwq2 : wrap64 (n * n) = n * n := by unfold wrap64; omega
          replace hwq := hwq.trans hm2
          replace hwq2 := hwq2.trans hm2
          rw [hm2] at hb3
          have HM2 := Lib.hid hm2
          clear hm2
          have HN : Hid (Below W0.heap.size W0 ((wr.setCell ⟨w5.heap.size, 3, none⟩ (.int .i64 (sm + n))).setCell ⟨w5.heap.size, 4, none⟩ (.int .i64 (sq + m2))) ∧ ((wr.setCell ⟨w5.heap.size, 3, none⟩ (.int .i64 (sm + n))).setCell ⟨w5.heap.size, 4, none⟩ (.int .i64 (sq + m2))).heap[w5.heap.size]? = some (.cells #[.int .i64 l.length, .float .f32 a1, .float .f32 a2, .int .i64 (sumTo (nums l) (j + 1)), .int .i64 (sqTo (nums l) (j + 1)), .int .i64 0] 29 (0, 0))) := Lib.hid ⟨(HJ.out.1.setCell (by simp; omega) _).setCell (by simp; omega) _, by
            rw [HS.out.1, HS.out.2, HM2.out]
            exact heap_setCell_same _ _ 4 _ _ _ (heap_setCell_same _ _ 3 _ _ _ HJ.out.2)⟩
          go_wp2
          go_roundw
          case rel => exact ⟨j + 1, by omega, by go_num, HN⟩
          case measure => simp [intOf]; omega
        · obtain rfl : j = l.length := by omega
          have hge : ¬ (l.length : Int) < (l.length : Int) := by omega
          have hlast := HSL.out.get (i := l.length - 1) (by omega)
          obtain ⟨hv, hv1, hv2⟩ := sample_V hlast.1
          have hcv := conv_int3 (l.getD (l.length - 1) 0) (lastN l) (toInt_V hv) (by unfold lastN; omega) (by unfold lastN; omega)
          have hlw : IntKind.i64.wrap ((l.length : Int) - 1) = (l.length : Int) - 1 := by rw [IntKind.wrap_i64]; omega
          have hll0 : (0 : Int) ≤ (l.length : Int) - 1 := by omega
          have hll1 : (l.length : Int) - 1 < (l.length : Int) := by omega
          have hllt : ((l.length : Int) - 1).toNat = l.length - 1 := by omega
          obtain ⟨last, hlst⟩ : ∃ last, lastN l = last := ⟨_, rfl⟩
          rw [hlst] at hcv
          have HLST := Lib.hid hlst
          clear hlst
          have H6 : Hid (Below W0.heap.size W0 wr ∧ wr.heap[w5.heap.size]? = some (.cells #[.int .i64 l.length, .float .f32 a1, .float .f32 a2, .int .i64 (sumTo (nums l) l.length), .int .i64 (sqTo (nums l) l.length), .int .i64 (levTo ts last 0)] 29 (0, 0))) := HJ
          go_wp2
          go_loopw [83] (fun i wr => ∃ k : Nat, k ≤ ts.length ∧ i = .int .i64 k ∧ Hid (Below W0.heap.size W0 wr ∧ wr.heap[w5.heap.size]? = some (.cells #[.int .i64 l.length, .float .f32 a1, .float .f32 a2, .int .i64 (sumTo (nums l) l.length), .int .i64 (sqTo (nums l) l.length), .int .i64 (levTo ts last k)] 29 (0, 0)))) (fun i _ => ts.length - (intOf i).toNat)
          case atStart => exact ⟨0, Nat.zero_le _, rfl, H6⟩
          case round =>
            obtain ⟨k2, hk2, rfl, HK⟩ := hrel
            by_cases hkl : k2 < ts.length
            · have hkl' : (k2 : Int) < (ts.length : Int) := by omega
              obtain ⟨ad, rfl, hcx⟩ := HC.out.below (below_then' HB.out HK.out.1) (l.length - 1) (by omega)
              obtain ⟨ad2, rfl, hct⟩ := HT.out.below (below_then' HB.out HK.out.1) k2 hkl
              have hs1 : levTo ts last (k2 + 1) = levTo ts last k2 + (if ts.getD k2 0 ≤ last then 1 else 0) := rfl
              have hb1 := levTo_bound ts last k2
              have hc5 := cell_of_row _ _ 5 _ _ _ HK.out.2
              have hf5 := frozen_of_row _ _ 5 _ _ HK.out.2
              generalize ts.getD k2 0 = t0 at *
              generalize levTo ts last k2 = lv at *
              generalize l.getD (l.length - 1) 0 = xl at *
              have HS := Lib.hid hs1
              clear hs1
              simp at hc5
              by_cases hle : t0 ≤ last
              · have HN : Hid (Below W0.heap.size W0 (wr.setCell ⟨w5.heap.size, 5, none⟩ (.int .i64 (lv + 1))) ∧ (wr.setCell ⟨w5.heap.size, 5, none⟩ (.int .i64 (lv + 1))).heap[w5.heap.size]? = some (.cells #[.int .i64 l.length, .float .f32 a1, .float .f32 a2, .int .i64 (sumTo (nums l) l.length), .int .i64 (sqTo (nums l) l.length), .int .i64 (levTo ts last (k2 + 1))] 29 (0, 0))) := Lib.hid ⟨HK.out.1.setCell (by simp; omega) _, by
                  rw [HS.out, if_pos hle]
                  exact heap_setCell_same _ _ 5 _ _ _ HK.out.2⟩
                go_wp2
                go_roundw
                case rel => exact ⟨k2 + 1, by omega, by go_num, HN⟩
                case measure => simp [intOf]; omega
              · have hle' : ¬ t0 ≤ last := hle
                have HN : Hid (Below W0.heap.size W0 wr ∧ wr.heap[w5.heap.size]? = some (.cells #[.int .i64 l.length, .float .f32 a1, .float .f32 a2, .int .i64 (sumTo (nums l) l.length), .int .i64 (sqTo (nums l) l.length), .int .i64 (levTo ts last (k2 + 1))] 29 (0, 0))) := Lib.hid ⟨HK.out.1, by
                  rw [HS.out, if_neg hle, Int.add_zero]; exact HK.out.2⟩
                go_wp2
                go_roundw
                case rel => exact ⟨k2 + 1, by omega, by go_num, HN⟩
                case measure => simp [intOf]; omega
            · obtain rfl : k2 = ts.length := by omega
              have hge2 : ¬ (ts.length : Int) < (ts.length : Int) := by omega
              have hone : (#[.int .i64 l.length, .float .f32 a1, .float .f32 a2, .int .i64 (sumTo (nums l) l.length), .int .i64 (sqTo (nums l) l.length), .int .i64 (levTo ts last ts.length)] : Array Value).all (·.oneCell') = true := by simp [Value.oneCell']
              have HONE := Lib.hid hone
              clear hone
              go_wp2_with (first
                | ((with_reducible change wpList _ _ _ (⟨_, .load 29 (.tmp 8), _, _, _, _⟩ :: _) _ _); go_loud (refine wpList_load_row rfl 29 (.tmp 8) rfl w5.heap.size rfl 29 _ (0, 0) _ HK.out.2 Try.underlying29 rfl (by kernel_rfl) ?_))
                | ((with_reducible change wpList _ _ _ (⟨_, .store 29 (.tmp 4) (.tmp 101), _, _, _, _⟩ :: _) _ _); go_loud (refine wpList_store_row rfl 29 (.tmp 4) (.tmp 101) rfl w.heap.size _ rfl rfl 29 _ (heap_kept HH.out HK.out.1) (by kernel_rfl) rfl HONE.out ?_)))
              refine bodyPost_ret (results_cell_tmp_row rfl _ _ w.heap.size 29 _ (0, 0) _ rfl (setRow_heap _ _ _ _ _ _ (heap_kept HH.out HK.out.1)) Try.underlying29 rfl (by kernel_rfl)) rfl ?_
              refine ⟨?_, below_setRow (below_then' HB.out HK.out.1) (Nat.le_refl _) _⟩
              unfold gval
              rw [HF.out, if_pos rfl]
              unfold fullG
              rw [HLST.out, ← HQ.out.1, ← HQ.out.2]
              rfl
end Go.Proofs.Ytmmhflpeapojgaa
