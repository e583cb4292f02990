import Derived.Test.YtmmhflpeapojgaaD1
import Derived.Deep.LoopGhost
namespace Go.Proofs.Ytmmhflpeapojgaa
set_option linter.unusedVariables false
set_option linter.unusedSimpArgs false
open Go.RowKit Ieee
attribute [local go_sem] ints_get ints_size ints_getElem

def lstR (n : List Int) : Nat → Int
  | 0 => 2047
  | k + 1 => if n.getD k 0 < lstR n k then n.getD k 0 else lstR n k
def gstR (n : List Int) : Nat → Int
  | 0 => -2048
  | k + 1 => if gstR n k < n.getD k 0 then n.getD k 0 else gstR n k
theorem lstR_least {n : List Int} (h : ∀ i, -2048 ≤ n.getD i 0 ∧ n.getD i 0 ≤ 2047) : ∀ k, lstR n (k + 1) = least n (k + 1)
  | 0 => by
    have := h 0
    show (if n.getD 0 0 < 2047 then n.getD 0 0 else 2047) = min (n.getD 0 0) (n.getD 0 0)
    by_cases q : n.getD 0 0 < 2047
    · rw [if_pos q]; omega
    · rw [if_neg q]; omega
  | k + 1 => by
    have ih := lstR_least h k
    rw [lstR, least, ← ih]
    by_cases q : n.getD (k + 1) 0 < lstR n (k + 1)
    · rw [if_pos q]; omega
    · rw [if_neg q]; omega
theorem gstR_most {n : List Int} (h : ∀ i, -2048 ≤ n.getD i 0 ∧ n.getD i 0 ≤ 2047) : ∀ k, gstR n (k + 1) = most n (k + 1)
  | 0 => by
    have := h 0
    show (if -2048 < n.getD 0 0 then n.getD 0 0 else -2048) = max (n.getD 0 0) (n.getD 0 0)
    by_cases q : -2048 < n.getD 0 0
    · rw [if_pos q]; omega
    · rw [if_neg q]; omega
  | k + 1 => by
    have ih := gstR_most h k
    rw [gstR, most, ← ih]
    by_cases q : gstR n (k + 1) < n.getD (k + 1) 0
    · rw [if_pos q]; omega
    · rw [if_neg q]; omega
theorem lstR_bound {n : List Int} (h : ∀ i, -2048 ≤ n.getD i 0 ∧ n.getD i 0 ≤ 2047) : ∀ k, -2048 ≤ lstR n k ∧ lstR n k ≤ 2047
  | 0 => by simp [lstR]
  | k + 1 => by have := lstR_bound h k; have := h k; simp only [lstR]; split <;> omega
theorem gstR_bound {n : List Int} (h : ∀ i, -2048 ≤ n.getD i 0 ∧ n.getD i 0 ≤ 2047) : ∀ k, -2048 ≤ gstR n k ∧ gstR n k ≤ 2047
  | 0 => by simp [gstR]
  | k + 1 => by have := gstR_bound h k; have := h k; simp only [gstR]; split <;> omega
/-- The gauge within the reference's loop. -/
def gz (len sm sq lv : Int) : Array Value := #[.int .i64 len, .float .f32 0, .float .f32 0, .int .i64 sm, .int .i64 sq, .int .i64 lv]
def GS (W0 : World) (g : Nat) (len sm sq lv : Int) (wr : World) : Prop := Below W0.heap.size W0 wr ∧ wr.heap[g]? = some (.cells (gz len sm sq lv) 33 (0, 0))
theorem GS.set3 {W0 wr : World} {g : Nat} {len sm sq lv : Int} (h : GS W0 g len sm sq lv wr) (hg : W0.heap.size ≤ g) (v : Int) : GS W0 g len v sq lv (wr.setCell ⟨g, 3, none⟩ (.int .i64 v)) := ⟨h.1.setCell hg _, heap_setCell_same _ _ 3 _ _ _ h.2⟩
theorem GS.set4 {W0 wr : World} {g : Nat} {len sm sq lv : Int} (h : GS W0 g len sm sq lv wr) (hg : W0.heap.size ≤ g) (v : Int) : GS W0 g len sm v lv (wr.setCell ⟨g, 4, none⟩ (.int .i64 v)) := ⟨h.1.setCell hg _, heap_setCell_same _ _ 4 _ _ _ h.2⟩
theorem GS.set5 {W0 wr : World} {g : Nat} {len sm sq lv : Int} (h : GS W0 g len sm sq lv wr) (hg : W0.heap.size ≤ g) (v : Int) : GS W0 g len sm sq v (wr.setCell ⟨g, 5, none⟩ (.int .i64 v)) := ⟨h.1.setCell hg _, heap_setCell_same _ _ 5 _ _ _ h.2⟩
theorem GS.c3 {W0 wr : World} {g : Nat} {len sm sq lv : Int} (h : GS W0 g len sm sq lv wr) : wr.cell? ⟨g, 3, none⟩ = some (.int .i64 sm) := by rw [cell_of_row _ _ _ _ _ _ h.2]; rfl
theorem GS.c4 {W0 wr : World} {g : Nat} {len sm sq lv : Int} (h : GS W0 g len sm sq lv wr) : wr.cell? ⟨g, 4, none⟩ = some (.int .i64 sq) := by rw [cell_of_row _ _ _ _ _ _ h.2]; rfl
theorem GS.c5 {W0 wr : World} {g : Nat} {len sm sq lv : Int} (h : GS W0 g len sm sq lv wr) : wr.cell? ⟨g, 5, none⟩ = some (.int .i64 lv) := by rw [cell_of_row _ _ _ _ _ _ h.2]; rfl
theorem GS.fr {W0 wr : World} {g : Nat} {len sm sq lv : Int} (h : GS W0 g len sm sq lv wr) (j : Nat) : wr.frozen? ⟨g, j, none⟩ = false := frozen_of_row _ _ j _ _ h.2

set_option maxHeartbeats 8000000 in
set_option maxRecDepth 100000 in
theorem rmeasure_good (A : Option Addr) (c : Nat) (l : List Nat) (B : Option Addr) (cb : Nat) (ts : List Int) (w : World) (hC : FC w A l) (hT : IC w B ts)
    (hsc : scode l = 0) (h0 : 0 < l.length) (h16 : ts.length ≤ 16) :
    Calls Try.prog 8 #[.slice A l.length c, .slice B ts.length cb] w fun e w' => MPost l ts w e w' := by
  obtain ⟨hl, hs⟩ := scode_zero hsc
  have HC := Lib.hid hC
  have HT := Lib.hid hT
  have HB := Lib.hid ((Below.refl w.heap.size w).alloc (Nat.le_refl _) (.cells #[.int .i64 0, .float .f32 0, .float .f32 0, .int .i64 0, .int .i64 0, .int .i64 0] 33))
  have HH := Lib.hid (heap_alloc_new w (.cells #[.int .i64 0, .float .f32 0, .float .f32 0, .int .i64 0, .int .i64 0, .int .i64 0] 33))
  have hcA : ts.all inB = false → mcode l ts = 34 := fun h => by unfold mcode; rw [if_neg (by simpa using hsc), if_neg (by omega), if_neg (by omega), if_pos h]
  have hc0 : ts.all inB = true → incTo ts ts.length = false → mcode l ts = 30 := fun hall h => by unfold mcode; rw [if_neg (by simpa using hsc), if_neg (by omega), if_neg (by omega), if_neg (by rw [hall]; simp), if_pos h]
  have hc1 : ts.all inB = true → incTo ts ts.length = true → mcode l ts = 0 := fun hall h => by unfold mcode; rw [if_neg (by simpa using hsc), if_neg (by omega), if_neg (by omega), if_neg (by rw [hall]; simp), if_neg (by rw [h]; simp)]
  have HM := Lib.hid (And.intro hcA (And.intro hc0 hc1))
  have HSC := Lib.hid hsc
  have HALL := Lib.hid hs
  have HNB := Lib.hid (nums_bd l)
  have hl1 : ((l.length : Int) == 0) = false := beq_eq_false_iff_ne.2 (by omega)
  have h3' : ¬ (16 : Int) < (ts.length : Int) := by omega
  clear hC hT hs hcA hc0 hc1 hsc
  go_enter Try.func8, Try.ntmps8
  go_wp2_with (go_at_call 19; refine (rsamples_calls A c l _ (by omega) (HC.out.below HB.out)).mono ?_; rw [HSC.out]; rintro e w' ⟨rfl, rfl⟩)
  generalize (w.alloc (.cells #[.int .i64 0, .float .f32 0, .float .f32 0, .int .i64 0, .int .i64 0, .int .i64 0] 33)) = W0 at *
  go_loop [7] (fun i => ∃ k : Nat, k ≤ ts.length ∧ i = .int .i64 k ∧ Hid ((ts.take k).all inB = true)) (fun i => ts.length - (intOf i).toNat)
  case atStart => exact ⟨0, Nat.zero_le _, rfl, Lib.hid (by simp)⟩
  case round =>
    obtain ⟨k, hk, rfl, HI⟩ := hrel
    by_cases hlt : k < ts.length
    · have hlt' : (k : Int) < (ts.length : Int) := by omega
      obtain ⟨ad, rfl, hcA⟩ := HT.out.below HB.out k hlt
      have hts := all_take_succI hlt
      rw [HI.out, Bool.true_and] at hts
      have hna := not_allI hlt
      generalize ts.getD k 0 = n at *
      have HS := Lib.hid (And.intro hts hna)
      clear hts hna
      by_cases hin : -2048 ≤ n ∧ n ≤ 2047
      · have hib : inB n = true := by unfold inB; exact decide_eq_true hin
        have hts := HS.out.1
        rw [hib] at hts
        have HTS := Lib.hid hts
        have d1 : decide (n < -2048) = false := by simp; omega
        have d2 : decide (2047 < n) = false := by simp; omega
        have e1 : ¬ n < -2048 := by omega
        have e2 : ¬ 2047 < n := by omega
        clear hts hib
        go_wp2
        go_round
        case rel => exact ⟨k + 1, by omega, by go_num, HTS⟩
        case measure => simp [intOf]; omega
      · have hib : inB n = false := by unfold inB; exact decide_eq_false hin
        have HF : Hid (mcode l ts = 34) := Lib.hid (HM.out.1 (HS.out.2 hib))
        clear hib
        by_cases e1 : n < -2048
        · have d1 : decide (n < -2048) = true := decide_eq_true e1
          go_wp2_with ((with_reducible change wpList _ _ _ (⟨_, .store 33 (.tmp 4) (.tmp 48), _, _, _, _⟩ :: _) _ _); go_loud (refine wpList_store_row rfl 33 (.tmp 4) (.tmp 48) rfl w.heap.size zeroG rfl rfl 33 _ HH.out (by kernel_rfl) rfl zeroG_one ?_))
          refine bodyPost_ret (results_cell_tmp_row rfl _ _ w.heap.size 33 zeroG (0, 0) _ rfl (setRow_heap _ _ _ _ _ _ HH.out) Try.underlying33 rfl (by kernel_rfl)) rfl ?_
          exact MPost.bad HF.out (by decide) rfl (below_setRow HB.out (Nat.le_refl _) _)
        · have d1 : decide (n < -2048) = false := decide_eq_false e1
          have e2 : 2047 < n := by omega
          have d2 : decide (2047 < n) = true := decide_eq_true e2
          go_wp2_with ((with_reducible change wpList _ _ _ (⟨_, .store 33 (.tmp 4) (.tmp 48), _, _, _, _⟩ :: _) _ _); go_loud (refine wpList_store_row rfl 33 (.tmp 4) (.tmp 48) rfl w.heap.size zeroG rfl rfl 33 _ HH.out (by kernel_rfl) rfl zeroG_one ?_))
          refine bodyPost_ret (results_cell_tmp_row rfl _ _ w.heap.size 33 zeroG (0, 0) _ rfl (setRow_heap _ _ _ _ _ _ HH.out) Try.underlying33 rfl (by kernel_rfl)) rfl ?_
          exact MPost.bad HF.out (by decide) rfl (below_setRow HB.out (Nat.le_refl _) _)
    · obtain rfl : k = ts.length := by omega
      have hge : ¬ (ts.length : Int) < (ts.length : Int) := by omega
      have HTA : Hid (ts.all inB = true) := Lib.hid (by have := HI.out; rwa [List.take_length] at this)
      have HM2 := Lib.hid (And.intro (HM.out.2.1 HTA.out) (HM.out.2.2 HTA.out))
      clear HI HTA
      go_wp2
      go_loopw [8] (fun i wr => ∃ k : Nat, 1 ≤ k ∧ i = .int .i64 k ∧ Hid (incTo ts k = true ∧ (k ≤ ts.length ∨ k = 1) ∧ Below W0.heap.size W0 wr)) (fun i _ => ts.length - (intOf i).toNat)
      case atStart => exact ⟨1, by omega, rfl, Lib.hid ⟨by simp [incTo], .inr rfl, Below.refl _ _⟩⟩
      case round =>
        obtain ⟨k, hk1, rfl, HI⟩ := hrel
        by_cases hlt : k < ts.length
        · have hlt' : (k : Int) < (ts.length : Int) := by omega
          obtain ⟨ad, rfl, hcA⟩ := HT.out.below (below_then' HB.out HI.out.2.2) (k - 1) (by omega)
          obtain ⟨ad', e, hcB⟩ := HT.out.below (below_then' HB.out HI.out.2.2) k hlt
          cases e
          have hsn : incTo ts (k + 1) = decide (ts.getD (k - 1) 0 < ts.getD k 0) := by
            simp only [incTo, HI.out.1, Bool.true_and]
            exact decide_eq_decide.2 ⟨fun h => by omega, fun h => .inr h⟩
          generalize ts.getD (k - 1) 0 = p at *
          generalize ts.getD k 0 = q at *
          have hk0 : (0 : Int) ≤ (k : Int) - 1 := by omega
          have hk2 : (k : Int) - 1 < (ts.length : Int) := by omega
          have hw1 : IntKind.i64.wrap ((k : Int) - 1) = (k : Int) - 1 := by rw [IntKind.wrap_i64]; omega
          have hkt : ((k : Int) - 1).toNat = k - 1 := by omega
          have HSN := Lib.hid hsn
          clear hsn
          by_cases hpq : p < q
          · have hpq' : ¬ q ≤ p := by omega
            have hb : decide (q ≤ p) = false := by simp; omega
            go_wp2
            go_quiet (fail)
            go_wp2
            go_roundw
            case rel => exact ⟨k + 1, by omega, by go_num, Lib.hid ⟨by rw [HSN.out]; exact decide_eq_true hpq, .inl (by omega), below_drewN HI.out.2.2 _⟩⟩
            case measure => simp [intOf]; omega
          · have hpq' : q ≤ p := by omega
            have hb : decide (q ≤ p) = true := by simp; omega
            have HF : Hid (mcode l ts = 30) := Lib.hid (HM2.out.1 (incTo_false (m := ts.length) (k := k + 1) (by omega) (by rw [HSN.out]; exact decide_eq_false hpq)))
            go_wp2
            go_quiet (fail)
            go_wp2_with ((with_reducible change wpList _ _ _ (⟨_, .store 33 (.tmp 4) (.tmp 65), _, _, _, _⟩ :: _) _ _); go_loud (refine wpList_store_row rfl 33 (.tmp 4) (.tmp 65) rfl w.heap.size zeroG rfl rfl 33 _ (heap_kept HH.out (below_drewN HI.out.2.2 nq)) (by kernel_rfl) rfl zeroG_one ?_))
            refine bodyPost_ret (results_cell_tmp_row rfl _ _ w.heap.size 33 zeroG (0, 0) _ rfl (setRow_heap _ _ _ _ _ _ (heap_kept HH.out (below_drewN HI.out.2.2 nq))) Try.underlying33 rfl (by kernel_rfl)) rfl ?_
            exact MPost.bad HF.out (by decide) rfl (below_setRow (below_then' HB.out (below_drewN HI.out.2.2 nq)) (Nat.le_refl _) _)
        · have hge : ¬ (k : Int) < (ts.length : Int) := by omega
          have HF : Hid (mcode l ts = 0) := Lib.hid (HM2.out.2 (by
            rcases HI.out.2.1 with h | h
            · have : k = ts.length := by omega
              rw [← this]; exact HI.out.1
            · rcases Nat.eq_zero_or_pos ts.length with q | q
              · rw [q]; rfl
              · have : k = ts.length := by omega
                rw [← this]; exact HI.out.1))
          obtain ⟨w5, rfl⟩ : ∃ w5 : World, w5 = wr := ⟨_, rfl⟩
          have HG : Hid (GS W0 w5.heap.size l.length (sumTo (nums l) 0) (sqTo (nums l) 0) 0 (w5.alloc (.cells #[.int .i64 l.length, .float .f32 0, .float .f32 0, .int .i64 0, .int .i64 0, .int .i64 0] 33))) := Lib.hid ⟨HI.out.2.2.alloc HI.out.2.2.size _, heap_alloc_new w5 _⟩
          have hW0 := HI.out.2.2.size
          go_wp2
          go_loopw [10, 11, 12] (fun a b i wr => ∃ k : Nat, k ≤ l.length ∧ i = .int .i64 k ∧ a = .int .i64 (lstR (nums l) k) ∧ b = .int .i64 (gstR (nums l) k) ∧ Hid (GS W0 w5.heap.size l.length (sumTo (nums l) k) (sqTo (nums l) k) (if k < l.length then 0 else levTo ts (lastN l) ts.length) wr)) (fun _ _ i _ => l.length - (intOf i).toNat)
          case atStart => exact ⟨0, Nat.zero_le _, rfl, rfl, rfl, Lib.hid (by rw [if_pos h0]; exact HG.out)⟩
          case round =>
            obtain ⟨j, hj, rfl, rfl, rfl, HJ⟩ := hrel
            by_cases hjl : j < l.length
            · have hjl' : (j : Int) < (l.length : Int) := by omega
              obtain ⟨ad, rfl, hcx⟩ := HC.out.below (below_then' HB.out HJ.out.1) j hjl
              have hsx := all_get HALL.out hjl
              have hng : (nums l).getD j 0 = smpN (l.getD j 0) := nums_get l j hjl
              have hnb := HNB.out j
              have hs1 : sumTo (nums l) (j + 1) = sumTo (nums l) j + smpN (l.getD j 0) := by simp only [sumTo]; rw [hng]
              have hs2 : sqTo (nums l) (j + 1) = sqTo (nums l) j + smpN (l.getD j 0) * smpN (l.getD j 0) := by simp only [sqTo]; rw [hng]
              have hs3 : lstR (nums l) (j + 1) = if smpN (l.getD j 0) < lstR (nums l) j then smpN (l.getD j 0) else lstR (nums l) j := by simp only [lstR]; rw [hng]
              have hs4 : gstR (nums l) (j + 1) = if gstR (nums l) j < smpN (l.getD j 0) then smpN (l.getD j 0) else gstR (nums l) j := by simp only [gstR]; rw [hng]
              have hb1 := sumTo_bound HNB.out j
              have hb2 := sqTo_bound HNB.out j
              rw [hng] at hnb
              have hb3 := sq_bound hnb
              have hJ := HJ.out
              rw [if_pos hjl] at hJ
              have hc3 := hJ.c3
              have hc4 := hJ.c4
              have hf3 := hJ.fr 3
              have hf4 := hJ.fr 4
              have HJ2 := Lib.hid hJ
              have HLST : Hid (j = l.length - 1 → lastN l = smpN (l.getD j 0)) := Lib.hid (fun h => by unfold lastN; rw [h])
              have HS := Lib.hid (And.intro hs1 (And.intro hs2 (And.intro hs3 hs4)))
              have HSX := Lib.hid hsx
              clear hs1 hs2 hs3 hs4 hng hJ hsx
              obtain ⟨m2, hm2⟩ : ∃ m2, smpN (l.getD j 0) * smpN (l.getD j 0) = m2 := ⟨_, rfl⟩
              have hwq2 : wrap64 (smpN (l.getD j 0) * smpN (l.getD j 0)) = smpN (l.getD j 0) * smpN (l.getD j 0) := by unfold wrap64; omega
              replace hwq2 := hwq2.trans hm2
              rw [hm2] at hb3
              have HM2' := Lib.hid hm2
              clear hm2
              have hll0 : (0 : Int) ≤ (l.length : Int) - 1 := by omega
              generalize sumTo (nums l) j = sm at *
              generalize sqTo (nums l) j = sq at *
              generalize lstR (nums l) j = lst at *
              generalize gstR (nums l) j = gst at *
              generalize l.getD j 0 = x at *
              by_cases hq1 : smpN x < lst
              · have hq1' : smpN x < lst := hq1
                by_cases hq2 : gst < smpN x
                · have hq2' : gst < smpN x := hq2
                  have hlr : lstR (nums l) (j + 1) = smpN x := by rw [HS.out.2.2.1, if_pos hq1]
                  have hgr : gstR (nums l) (j + 1) = smpN x := by rw [HS.out.2.2.2, if_pos hq2]
                  have HLR := Lib.hid (And.intro hlr hgr)
                  clear hlr hgr
                  have HN : Hid (GS W0 w5.heap.size l.length (sumTo (nums l) (j + 1)) (sqTo (nums l) (j + 1)) 0 ((wr.setCell ⟨w5.heap.size, 3, none⟩ (.int .i64 (sm + smpN x))).setCell ⟨w5.heap.size, 4, none⟩ (.int .i64 (sq + m2)))) := Lib.hid (by rw [HS.out.1, HS.out.2.1, HM2'.out]; exact (HJ2.out.set3 hW0 _).set4 hW0 _)
                  by_cases hlast : j = l.length - 1
                  · have hli : (j : Int) = (l.length : Int) - 1 := by omega
                    have HLV := Lib.hid (HLST.out hlast)
                    have hjj : j + 1 = l.length := by omega
                    have HJJ := Lib.hid hjj
                    have hbe : ((j : Int) == (l.length : Int) - 1) = true := beq_iff_eq.2 hli
                    clear hlast hli hjj
                    go_wp2_with (go_at_call 26; refine (rsample_calls x _).mono ?_; rw [HSX.out]; rintro e w' ⟨rfl, rfl⟩)
                    have HN0 : Hid (GS W0 w5.heap.size l.length (sumTo (nums l) (j + 1)) (sqTo (nums l) (j + 1)) (levTo ts (smpN x) 0) ((wr.setCell ⟨w5.heap.size, 3, none⟩ (.int .i64 (sm + smpN x))).setCell ⟨w5.heap.size, 4, none⟩ (.int .i64 (sq + m2)))) := HN
                    generalize ((wr.setCell ⟨w5.heap.size, 3, none⟩ (.int .i64 (sm + smpN x))).setCell ⟨w5.heap.size, 4, none⟩ (.int .i64 (sq + m2))) = w7 at *
                    go_loopw [15] (fun i wr => ∃ k2 : Nat, k2 ≤ ts.length ∧ i = .int .i64 k2 ∧ Hid (GS W0 w5.heap.size l.length (sumTo (nums l) (j + 1)) (sqTo (nums l) (j + 1)) (levTo ts (smpN x) k2) wr)) (fun i _ => ts.length - (intOf i).toNat)
                    case atStart => exact ⟨0, Nat.zero_le _, rfl, HN0⟩
                    case round =>
                      obtain ⟨k2, hk2, rfl, HK⟩ := hrel
                      by_cases hkl : k2 < ts.length
                      · have hkl' : (k2 : Int) < (ts.length : Int) := by omega
                        obtain ⟨ad2, rfl, hct⟩ := HT.out.below (below_then' HB.out HK.out.1) k2 hkl
                        have hs1 : levTo ts (smpN x) (k2 + 1) = levTo ts (smpN x) k2 + (if ts.getD k2 0 ≤ smpN x then 1 else 0) := rfl
                        have hb1 := levTo_bound ts (smpN x) k2
                        have hc5 := HK.out.c5
                        have hf5 := HK.out.fr 5
                        generalize ts.getD k2 0 = t0 at *
                        generalize levTo ts (smpN x) k2 = lv at *
                        have HS1 := Lib.hid hs1
                        clear hs1
                        by_cases hle : t0 ≤ smpN x
                        · have HN1 : Hid (GS W0 w5.heap.size l.length (sumTo (nums l) (j + 1)) (sqTo (nums l) (j + 1)) (levTo ts (smpN x) (k2 + 1)) (wr.setCell ⟨w5.heap.size, 5, none⟩ (.int .i64 (lv + 1)))) := Lib.hid (by rw [HS1.out, if_pos hle]; exact HK.out.set5 hW0 _)
                          go_wp2
                          exact ⟨⟨k2 + 1, by omega, by go_num, HN1⟩, by simp [intOf]; omega⟩
                        · have hle' : ¬ t0 ≤ smpN x := hle
                          have HN1 : Hid (GS W0 w5.heap.size l.length (sumTo (nums l) (j + 1)) (sqTo (nums l) (j + 1)) (levTo ts (smpN x) (k2 + 1)) wr) := Lib.hid (by rw [HS1.out, if_neg hle, Int.add_zero]; exact HK.out)
                          go_wp2
                          exact ⟨⟨k2 + 1, by omega, by go_num, HN1⟩, by simp [intOf]; omega⟩
                      · obtain rfl : k2 = ts.length := by omega
                        have hge2 : ¬ (ts.length : Int) < (ts.length : Int) := by omega
                        have HN2 : Hid (GS W0 w5.heap.size l.length (sumTo (nums l) (j + 1)) (sqTo (nums l) (j + 1)) (if j + 1 < l.length then 0 else levTo ts (lastN l) ts.length) wr) := Lib.hid (by rw [if_neg (by rw [HJJ.out]; omega), HLV.out]; exact HK.out)
                        go_wp2
                        exact ⟨⟨j + 1, by rw [HJJ.out]; exact Nat.le_refl _, by go_num, by rw [HLR.out.1], by rw [HLR.out.2], HN2⟩, by simp [intOf]; omega⟩
                  · have hbe : ((j : Int) == (l.length : Int) - 1) = false := beq_eq_false_iff_ne.2 (by omega)
                    have hni : ¬ (j : Int) = (l.length : Int) - 1 := by omega
                    have HN2 : Hid (GS W0 w5.heap.size l.length (sumTo (nums l) (j + 1)) (sqTo (nums l) (j + 1)) (if j + 1 < l.length then 0 else levTo ts (lastN l) ts.length) ((wr.setCell ⟨w5.heap.size, 3, none⟩ (.int .i64 (sm + smpN x))).setCell ⟨w5.heap.size, 4, none⟩ (.int .i64 (sq + m2)))) := Lib.hid (by rw [if_pos (by omega)]; exact HN.out)
                    go_wp2_with (go_at_call 26; refine (rsample_calls x _).mono ?_; rw [HSX.out]; rintro e w' ⟨rfl, rfl⟩)
                    exact ⟨⟨j + 1, by omega, by go_num, by rw [HLR.out.1], by rw [HLR.out.2], HN2⟩, by simp [intOf]; omega⟩
                · have hq2' : ¬ gst < smpN x := hq2
                  have hlr : lstR (nums l) (j + 1) = smpN x := by rw [HS.out.2.2.1, if_pos hq1]
                  have hgr : gstR (nums l) (j + 1) = gst := by rw [HS.out.2.2.2, if_neg hq2]
                  have HLR := Lib.hid (And.intro hlr hgr)
                  clear hlr hgr
                  have HN : Hid (GS W0 w5.heap.size l.length (sumTo (nums l) (j + 1)) (sqTo (nums l) (j + 1)) 0 ((wr.setCell ⟨w5.heap.size, 3, none⟩ (.int .i64 (sm + smpN x))).setCell ⟨w5.heap.size, 4, none⟩ (.int .i64 (sq + m2)))) := Lib.hid (by rw [HS.out.1, HS.out.2.1, HM2'.out]; exact (HJ2.out.set3 hW0 _).set4 hW0 _)
                  by_cases hlast : j = l.length - 1
                  · have hli : (j : Int) = (l.length : Int) - 1 := by omega
                    have HLV := Lib.hid (HLST.out hlast)
                    have hjj : j + 1 = l.length := by omega
                    have HJJ := Lib.hid hjj
                    have hbe : ((j : Int) == (l.length : Int) - 1) = true := beq_iff_eq.2 hli
                    clear hlast hli hjj
                    go_wp2_with (go_at_call 26; refine (rsample_calls x _).mono ?_; rw [HSX.out]; rintro e w' ⟨rfl, rfl⟩)
                    have HN0 : Hid (GS W0 w5.heap.size l.length (sumTo (nums l) (j + 1)) (sqTo (nums l) (j + 1)) (levTo ts (smpN x) 0) ((wr.setCell ⟨w5.heap.size, 3, none⟩ (.int .i64 (sm + smpN x))).setCell ⟨w5.heap.size, 4, none⟩ (.int .i64 (sq + m2)))) := HN
                    generalize ((wr.setCell ⟨w5.heap.size, 3, none⟩ (.int .i64 (sm + smpN x))).setCell ⟨w5.heap.size, 4, none⟩ (.int .i64 (sq + m2))) = w7 at *
                    go_loopw [15] (fun i wr => ∃ k2 : Nat, k2 ≤ ts.length ∧ i = .int .i64 k2 ∧ Hid (GS W0 w5.heap.size l.length (sumTo (nums l) (j + 1)) (sqTo (nums l) (j + 1)) (levTo ts (smpN x) k2) wr)) (fun i _ => ts.length - (intOf i).toNat)
                    case atStart => exact ⟨0, Nat.zero_le _, rfl, HN0⟩
                    case round =>
                      obtain ⟨k2, hk2, rfl, HK⟩ := hrel
                      by_cases hkl : k2 < ts.length
                      · have hkl' : (k2 : Int) < (ts.length : Int) := by omega
                        obtain ⟨ad2, rfl, hct⟩ := HT.out.below (below_then' HB.out HK.out.1) k2 hkl
                        have hs1 : levTo ts (smpN x) (k2 + 1) = levTo ts (smpN x) k2 + (if ts.getD k2 0 ≤ smpN x then 1 else 0) := rfl
                        have hb1 := levTo_bound ts (smpN x) k2
                        have hc5 := HK.out.c5
                        have hf5 := HK.out.fr 5
                        generalize ts.getD k2 0 = t0 at *
                        generalize levTo ts (smpN x) k2 = lv at *
                        have HS1 := Lib.hid hs1
                        clear hs1
                        by_cases hle : t0 ≤ smpN x
                        · have HN1 : Hid (GS W0 w5.heap.size l.length (sumTo (nums l) (j + 1)) (sqTo (nums l) (j + 1)) (levTo ts (smpN x) (k2 + 1)) (wr.setCell ⟨w5.heap.size, 5, none⟩ (.int .i64 (lv + 1)))) := Lib.hid (by rw [HS1.out, if_pos hle]; exact HK.out.set5 hW0 _)
                          go_wp2
                          exact ⟨⟨k2 + 1, by omega, by go_num, HN1⟩, by simp [intOf]; omega⟩
                        · have hle' : ¬ t0 ≤ smpN x := hle
                          have HN1 : Hid (GS W0 w5.heap.size l.length (sumTo (nums l) (j + 1)) (sqTo (nums l) (j + 1)) (levTo ts (smpN x) (k2 + 1)) wr) := Lib.hid (by rw [HS1.out, if_neg hle, Int.add_zero]; exact HK.out)
                          go_wp2
                          exact ⟨⟨k2 + 1, by omega, by go_num, HN1⟩, by simp [intOf]; omega⟩
                      · obtain rfl : k2 = ts.length := by omega
                        have hge2 : ¬ (ts.length : Int) < (ts.length : Int) := by omega
                        have HN2 : Hid (GS W0 w5.heap.size l.length (sumTo (nums l) (j + 1)) (sqTo (nums l) (j + 1)) (if j + 1 < l.length then 0 else levTo ts (lastN l) ts.length) wr) := Lib.hid (by rw [if_neg (by rw [HJJ.out]; omega), HLV.out]; exact HK.out)
                        go_wp2
                        exact ⟨⟨j + 1, by rw [HJJ.out]; exact Nat.le_refl _, by go_num, by rw [HLR.out.1], by rw [HLR.out.2], HN2⟩, by simp [intOf]; omega⟩
                  · have hbe : ((j : Int) == (l.length : Int) - 1) = false := beq_eq_false_iff_ne.2 (by omega)
                    have hni : ¬ (j : Int) = (l.length : Int) - 1 := by omega
                    have HN2 : Hid (GS W0 w5.heap.size l.length (sumTo (nums l) (j + 1)) (sqTo (nums l) (j + 1)) (if j + 1 < l.length then 0 else levTo ts (lastN l) ts.length) ((wr.setCell ⟨w5.heap.size, 3, none⟩ (.int .i64 (sm + smpN x))).setCell ⟨w5.heap.size, 4, none⟩ (.int .i64 (sq + m2)))) := Lib.hid (by rw [if_pos (by omega)]; exact HN.out)
                    go_wp2_with (go_at_call 26; refine (rsample_calls x _).mono ?_; rw [HSX.out]; rintro e w' ⟨rfl, rfl⟩)
                    exact ⟨⟨j + 1, by omega, by go_num, by rw [HLR.out.1], by rw [HLR.out.2], HN2⟩, by simp [intOf]; omega⟩
              · have hq1' : ¬ smpN x < lst := hq1
                by_cases hq2 : gst < smpN x
                · have hq2' : gst < smpN x := hq2
                  have hlr : lstR (nums l) (j + 1) = lst := by rw [HS.out.2.2.1, if_neg hq1]
                  have hgr : gstR (nums l) (j + 1) = smpN x := by rw [HS.out.2.2.2, if_pos hq2]
                  have HLR := Lib.hid (And.intro hlr hgr)
                  clear hlr hgr
                  have HN : Hid (GS W0 w5.heap.size l.length (sumTo (nums l) (j + 1)) (sqTo (nums l) (j + 1)) 0 ((wr.setCell ⟨w5.heap.size, 3, none⟩ (.int .i64 (sm + smpN x))).setCell ⟨w5.heap.size, 4, none⟩ (.int .i64 (sq + m2)))) := Lib.hid (by rw [HS.out.1, HS.out.2.1, HM2'.out]; exact (HJ2.out.set3 hW0 _).set4 hW0 _)
                  by_cases hlast : j = l.length - 1
                  · have hli : (j : Int) = (l.length : Int) - 1 := by omega
                    have HLV := Lib.hid (HLST.out hlast)
                    have hjj : j + 1 = l.length := by omega
                    have HJJ := Lib.hid hjj
                    have hbe : ((j : Int) == (l.length : Int) - 1) = true := beq_iff_eq.2 hli
                    clear hlast hli hjj
                    go_wp2_with (go_at_call 26; refine (rsample_calls x _).mono ?_; rw [HSX.out]; rintro e w' ⟨rfl, rfl⟩)
                    have HN0 : Hid (GS W0 w5.heap.size l.length (sumTo (nums l) (j + 1)) (sqTo (nums l) (j + 1)) (levTo ts (smpN x) 0) ((wr.setCell ⟨w5.heap.size, 3, none⟩ (.int .i64 (sm + smpN x))).setCell ⟨w5.heap.size, 4, none⟩ (.int .i64 (sq + m2)))) := HN
                    generalize ((wr.setCell ⟨w5.heap.size, 3, none⟩ (.int .i64 (sm + smpN x))).setCell ⟨w5.heap.size, 4, none⟩ (.int .i64 (sq + m2))) = w7 at *
                    go_loopw [15] (fun i wr => ∃ k2 : Nat, k2 ≤ ts.length ∧ i = .int .i64 k2 ∧ Hid (GS W0 w5.heap.size l.length (sumTo (nums l) (j + 1)) (sqTo (nums l) (j + 1)) (levTo ts (smpN x) k2) wr)) (fun i _ => ts.length - (intOf i).toNat)
                    case atStart => exact ⟨0, Nat.zero_le _, rfl, HN0⟩
                    case round =>
                      obtain ⟨k2, hk2, rfl, HK⟩ := hrel
                      by_cases hkl : k2 < ts.length
                      · have hkl' : (k2 : Int) < (ts.length : Int) := by omega
                        obtain ⟨ad2, rfl, hct⟩ := HT.out.below (below_then' HB.out HK.out.1) k2 hkl
                        have hs1 : levTo ts (smpN x) (k2 + 1) = levTo ts (smpN x) k2 + (if ts.getD k2 0 ≤ smpN x then 1 else 0) := rfl
                        have hb1 := levTo_bound ts (smpN x) k2
                        have hc5 := HK.out.c5
                        have hf5 := HK.out.fr 5
                        generalize ts.getD k2 0 = t0 at *
                        generalize levTo ts (smpN x) k2 = lv at *
                        have HS1 := Lib.hid hs1
                        clear hs1
                        by_cases hle : t0 ≤ smpN x
                        · have HN1 : Hid (GS W0 w5.heap.size l.length (sumTo (nums l) (j + 1)) (sqTo (nums l) (j + 1)) (levTo ts (smpN x) (k2 + 1)) (wr.setCell ⟨w5.heap.size, 5, none⟩ (.int .i64 (lv + 1)))) := Lib.hid (by rw [HS1.out, if_pos hle]; exact HK.out.set5 hW0 _)
                          go_wp2
                          exact ⟨⟨k2 + 1, by omega, by go_num, HN1⟩, by simp [intOf]; omega⟩
                        · have hle' : ¬ t0 ≤ smpN x := hle
                          have HN1 : Hid (GS W0 w5.heap.size l.length (sumTo (nums l) (j + 1)) (sqTo (nums l) (j + 1)) (levTo ts (smpN x) (k2 + 1)) wr) := Lib.hid (by rw [HS1.out, if_neg hle, Int.add_zero]; exact HK.out)
                          go_wp2
                          exact ⟨⟨k2 + 1, by omega, by go_num, HN1⟩, by simp [intOf]; omega⟩
                      · obtain rfl : k2 = ts.length := by omega
                        have hge2 : ¬ (ts.length : Int) < (ts.length : Int) := by omega
                        have HN2 : Hid (GS W0 w5.heap.size l.length (sumTo (nums l) (j + 1)) (sqTo (nums l) (j + 1)) (if j + 1 < l.length then 0 else levTo ts (lastN l) ts.length) wr) := Lib.hid (by rw [if_neg (by rw [HJJ.out]; omega), HLV.out]; exact HK.out)
                        go_wp2
                        exact ⟨⟨j + 1, by rw [HJJ.out]; exact Nat.le_refl _, by go_num, by rw [HLR.out.1], by rw [HLR.out.2], HN2⟩, by simp [intOf]; omega⟩
                  · have hbe : ((j : Int) == (l.length : Int) - 1) = false := beq_eq_false_iff_ne.2 (by omega)
                    have hni : ¬ (j : Int) = (l.length : Int) - 1 := by omega
                    have HN2 : Hid (GS W0 w5.heap.size l.length (sumTo (nums l) (j + 1)) (sqTo (nums l) (j + 1)) (if j + 1 < l.length then 0 else levTo ts (lastN l) ts.length) ((wr.setCell ⟨w5.heap.size, 3, none⟩ (.int .i64 (sm + smpN x))).setCell ⟨w5.heap.size, 4, none⟩ (.int .i64 (sq + m2)))) := Lib.hid (by rw [if_pos (by omega)]; exact HN.out)
                    go_wp2_with (go_at_call 26; refine (rsample_calls x _).mono ?_; rw [HSX.out]; rintro e w' ⟨rfl, rfl⟩)
                    exact ⟨⟨j + 1, by omega, by go_num, by rw [HLR.out.1], by rw [HLR.out.2], HN2⟩, by simp [intOf]; omega⟩
                · have hq2' : ¬ gst < smpN x := hq2
                  have hlr : lstR (nums l) (j + 1) = lst := by rw [HS.out.2.2.1, if_neg hq1]
                  have hgr : gstR (nums l) (j + 1) = gst := by rw [HS.out.2.2.2, if_neg hq2]
                  have HLR := Lib.hid (And.intro hlr hgr)
                  clear hlr hgr
                  have HN : Hid (GS W0 w5.heap.size l.length (sumTo (nums l) (j + 1)) (sqTo (nums l) (j + 1)) 0 ((wr.setCell ⟨w5.heap.size, 3, none⟩ (.int .i64 (sm + smpN x))).setCell ⟨w5.heap.size, 4, none⟩ (.int .i64 (sq + m2)))) := Lib.hid (by rw [HS.out.1, HS.out.2.1, HM2'.out]; exact (HJ2.out.set3 hW0 _).set4 hW0 _)
                  by_cases hlast : j = l.length - 1
                  · have hli : (j : Int) = (l.length : Int) - 1 := by omega
                    have HLV := Lib.hid (HLST.out hlast)
                    have hjj : j + 1 = l.length := by omega
                    have HJJ := Lib.hid hjj
                    have hbe : ((j : Int) == (l.length : Int) - 1) = true := beq_iff_eq.2 hli
                    clear hlast hli hjj
                    go_wp2_with (go_at_call 26; refine (rsample_calls x _).mono ?_; rw [HSX.out]; rintro e w' ⟨rfl, rfl⟩)
                    have HN0 : Hid (GS W0 w5.heap.size l.length (sumTo (nums l) (j + 1)) (sqTo (nums l) (j + 1)) (levTo ts (smpN x) 0) ((wr.setCell ⟨w5.heap.size, 3, none⟩ (.int .i64 (sm + smpN x))).setCell ⟨w5.heap.size, 4, none⟩ (.int .i64 (sq + m2)))) := HN
                    generalize ((wr.setCell ⟨w5.heap.size, 3, none⟩ (.int .i64 (sm + smpN x))).setCell ⟨w5.heap.size, 4, none⟩ (.int .i64 (sq + m2))) = w7 at *
                    go_loopw [15] (fun i wr => ∃ k2 : Nat, k2 ≤ ts.length ∧ i = .int .i64 k2 ∧ Hid (GS W0 w5.heap.size l.length (sumTo (nums l) (j + 1)) (sqTo (nums l) (j + 1)) (levTo ts (smpN x) k2) wr)) (fun i _ => ts.length - (intOf i).toNat)
                    case atStart => exact ⟨0, Nat.zero_le _, rfl, HN0⟩
                    case round =>
                      obtain ⟨k2, hk2, rfl, HK⟩ := hrel
                      by_cases hkl : k2 < ts.length
                      · have hkl' : (k2 : Int) < (ts.length : Int) := by omega
                        obtain ⟨ad2, rfl, hct⟩ := HT.out.below (below_then' HB.out HK.out.1) k2 hkl
                        have hs1 : levTo ts (smpN x) (k2 + 1) = levTo ts (smpN x) k2 + (if ts.getD k2 0 ≤ smpN x then 1 else 0) := rfl
                        have hb1 := levTo_bound ts (smpN x) k2
                        have hc5 := HK.out.c5
                        have hf5 := HK.out.fr 5
                        generalize ts.getD k2 0 = t0 at *
                        generalize levTo ts (smpN x) k2 = lv at *
                        have HS1 := Lib.hid hs1
                        clear hs1
                        by_cases hle : t0 ≤ smpN x
                        · have HN1 : Hid (GS W0 w5.heap.size l.length (sumTo (nums l) (j + 1)) (sqTo (nums l) (j + 1)) (levTo ts (smpN x) (k2 + 1)) (wr.setCell ⟨w5.heap.size, 5, none⟩ (.int .i64 (lv + 1)))) := Lib.hid (by rw [HS1.out, if_pos hle]; exact HK.out.set5 hW0 _)
                          go_wp2
                          exact ⟨⟨k2 + 1, by omega, by go_num, HN1⟩, by simp [intOf]; omega⟩
                        · have hle' : ¬ t0 ≤ smpN x := hle
                          have HN1 : Hid (GS W0 w5.heap.size l.length (sumTo (nums l) (j + 1)) (sqTo (nums l) (j + 1)) (levTo ts (smpN x) (k2 + 1)) wr) := Lib.hid (by rw [HS1.out, if_neg hle, Int.add_zero]; exact HK.out)
                          go_wp2
                          exact ⟨⟨k2 + 1, by omega, by go_num, HN1⟩, by simp [intOf]; omega⟩
                      · obtain rfl : k2 = ts.length := by omega
                        have hge2 : ¬ (ts.length : Int) < (ts.length : Int) := by omega
                        have HN2 : Hid (GS W0 w5.heap.size l.length (sumTo (nums l) (j + 1)) (sqTo (nums l) (j + 1)) (if j + 1 < l.length then 0 else levTo ts (lastN l) ts.length) wr) := Lib.hid (by rw [if_neg (by rw [HJJ.out]; omega), HLV.out]; exact HK.out)
                        go_wp2
                        exact ⟨⟨j + 1, by rw [HJJ.out]; exact Nat.le_refl _, by go_num, by rw [HLR.out.1], by rw [HLR.out.2], HN2⟩, by simp [intOf]; omega⟩
                  · have hbe : ((j : Int) == (l.length : Int) - 1) = false := beq_eq_false_iff_ne.2 (by omega)
                    have hni : ¬ (j : Int) = (l.length : Int) - 1 := by omega
                    have HN2 : Hid (GS W0 w5.heap.size l.length (sumTo (nums l) (j + 1)) (sqTo (nums l) (j + 1)) (if j + 1 < l.length then 0 else levTo ts (lastN l) ts.length) ((wr.setCell ⟨w5.heap.size, 3, none⟩ (.int .i64 (sm + smpN x))).setCell ⟨w5.heap.size, 4, none⟩ (.int .i64 (sq + m2)))) := Lib.hid (by rw [if_pos (by omega)]; exact HN.out)
                    go_wp2_with (go_at_call 26; refine (rsample_calls x _).mono ?_; rw [HSX.out]; rintro e w' ⟨rfl, rfl⟩)
                    exact ⟨⟨j + 1, by omega, by go_num, by rw [HLR.out.1], by rw [HLR.out.2], HN2⟩, by simp [intOf]; omega⟩
            · obtain rfl : j = l.length := by omega
              have hge : ¬ (l.length : Int) < (l.length : Int) := by omega
              have hJ := HJ.out
              rw [if_neg (by omega)] at hJ
              have hle : lstR (nums l) l.length = least (nums l) l.length := by obtain ⟨q, hq⟩ : ∃ q, l.length = q + 1 := ⟨l.length - 1, by omega⟩; rw [hq]; exact lstR_least HNB.out q
              have hge2 : gstR (nums l) l.length = most (nums l) l.length := by obtain ⟨q, hq⟩ : ∃ q, l.length = q + 1 := ⟨l.length - 1, by omega⟩; rw [hq]; exact gstR_most HNB.out q
              have HLG := Lib.hid (And.intro hle hge2)
              have HJ2 := Lib.hid hJ
              clear hle hge2 hJ
              generalize lstR (nums l) l.length = lst at *
              generalize gstR (nums l) l.length = gst at *
              have hc1 : wr.cell? ⟨w5.heap.size, 1, none⟩ = some (.float .f32 0) := by rw [cell_of_row _ _ _ _ _ _ HJ2.out.2]; rfl
              have hc2 : wr.cell? ⟨w5.heap.size, 2, none⟩ = some (.float .f32 0) := by rw [cell_of_row _ _ _ _ _ _ HJ2.out.2]; rfl
              have hf1 := HJ2.out.fr 1
              have hf2 := HJ2.out.fr 2
              have hfin : Below W0.heap.size W0 ((wr.setCell ⟨w5.heap.size, 1, none⟩ (.float .f32 (floatOfInt .f32 lst))).setCell ⟨w5.heap.size, 2, none⟩ (.float .f32 (floatOfInt .f32 gst))) ∧ ((wr.setCell ⟨w5.heap.size, 1, none⟩ (.float .f32 (floatOfInt .f32 lst))).setCell ⟨w5.heap.size, 2, none⟩ (.float .f32 (floatOfInt .f32 gst))).heap[w5.heap.size]? = some (.cells #[.int .i64 l.length, .float .f32 (floatOfInt .f32 lst), .float .f32 (floatOfInt .f32 gst), .int .i64 (sumTo (nums l) l.length), .int .i64 (sqTo (nums l) l.length), .int .i64 (levTo ts (lastN l) ts.length)] 33 (0, 0)) :=
                ⟨(HJ2.out.1.setCell hW0 _).setCell hW0 _, heap_setCell_same _ _ 2 _ _ _ (heap_setCell_same _ _ 1 _ _ _ HJ2.out.2)⟩
              have HFIN := Lib.hid hfin
              have hone : (#[.int .i64 l.length, .float .f32 (floatOfInt .f32 lst), .float .f32 (floatOfInt .f32 gst), .int .i64 (sumTo (nums l) l.length), .int .i64 (sqTo (nums l) l.length), .int .i64 (levTo ts (lastN l) ts.length)] : Array Value).all (·.oneCell') = true := by simp [Value.oneCell']
              have HONE := Lib.hid hone
              clear hfin hone
              go_wp2_with (first
                | ((with_reducible change wpList _ _ _ (⟨_, .load 33 (.tmp 9), _, _, _, _⟩ :: _) _ _); go_loud (refine wpList_load_row rfl 33 (.tmp 9) rfl w5.heap.size rfl 33 _ (0, 0) _ HFIN.out.2 Try.underlying33 rfl (by kernel_rfl) ?_))
                | ((with_reducible change wpList _ _ _ (⟨_, .store 33 (.tmp 4) (.tmp 130), _, _, _, _⟩ :: _) _ _); go_loud (refine wpList_store_row rfl 33 (.tmp 4) (.tmp 130) rfl w.heap.size _ rfl rfl 33 _ (heap_kept HH.out HFIN.out.1) (by kernel_rfl) rfl HONE.out ?_)))
              refine bodyPost_ret (results_cell_tmp_row rfl _ _ w.heap.size 33 _ (0, 0) _ rfl (setRow_heap _ _ _ _ _ _ (heap_kept HH.out HFIN.out.1)) Try.underlying33 rfl (by kernel_rfl)) rfl ?_
              refine ⟨?_, below_setRow (below_then' HB.out HFIN.out.1) (Nat.le_refl _) _⟩
              unfold gval
              rw [HF.out, if_pos rfl]
              unfold fullG
              rw [← HLG.out.1, ← HLG.out.2]
              rfl
end Go.Proofs.Ytmmhflpeapojgaa
