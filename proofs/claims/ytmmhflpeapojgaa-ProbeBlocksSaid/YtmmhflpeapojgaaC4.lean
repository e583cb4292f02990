import Derived.Test.YtmmhflpeapojgaaC3
namespace Go.Proofs.Ytmmhflpeapojgaa
set_option linter.unusedVariables false
set_option linter.unusedSimpArgs false
open Go.RowKit Ieee
attribute [local go_sem] ints_get ints_size ints_getElem

theorem all_get {xs : List Nat} (h : xs.all sampleB = true) {k : Nat} (hk : k < xs.length) : sampleB (xs.getD k 0) = true := by
  rw [List.getD_eq_getElem?_getD, List.getElem?_eq_getElem hk]
  exact List.all_eq_true.1 h _ (List.getElem_mem hk)
theorem nums_bound {xs : List Nat} (h : xs.all sampleB = true) (i : Nat) : -2048 ≤ (nums xs).getD i 0 ∧ (nums xs).getD i 0 ≤ 2047 := by
  rcases Nat.lt_or_ge i xs.length with hi | hi
  · rw [nums_get xs i hi]
    exact (sample_V (all_get h hi)).2
  · rw [List.getD_eq_getElem?_getD, List.getElem?_eq_none (by simpa [nums] using hi)]
    simp
theorem bits_and' : ∀ k j : Fin 8, bits .and .u64 (k.1 : Int) (j.1 : Int) = ((k.1 &&& j.1 : Nat) : Int) := by decide +kernel
theorem bits_and_u64 {k j : Nat} (hk : k < 8) (hj : j < 8) : bits .and .u64 (k : Int) (j : Int) = ((k &&& j : Nat) : Int) := bits_and' ⟨k, hk⟩ ⟨j, hj⟩
set_option maxHeartbeats 4000000 in
theorem walsh_good (xs : List Nat) (hx : xs.length = 8) (hb : xs.all sampleB = true) (w : World) : Calls Try.prog 16 #[.agg (fx xs)] w fun e w' => WalshPost xs w e w' := by
  have hwc : wcode xs = 0 := by unfold wcode; rw [if_pos hb]
  have hwv : wval xs = outW xs := by unfold wval; rw [if_pos hb]
  have HT : Hid (TW w xs zero8 (((w.alloc (.cells (fx xs) 48)).alloc (.cells #[.float .f32 0, .float .f32 0, .float .f32 0, .float .f32 0, .float .f32 0, .float .f32 0, .float .f32 0, .float .f32 0] 48)).alloc (.cells #[.float .f32 0, .float .f32 0, .float .f32 0, .float .f32 0, .float .f32 0, .float .f32 0, .float .f32 0, .float .f32 0] 48))) := Lib.hid (TW.start w xs)
  have HI := Lib.hid (fun k hk W => idx48 xs hx k hk W)
  have H48 := Lib.hid (size48 xs hx)
  have HM := Lib.hid (And.intro hwc hwv)
  have HNB := Lib.hid (nums_bound hb)
  have HWB := Lib.hid (fun k => walshN_bound (nums_bound hb) k)
  have HX := Lib.hid hx
  have HALL := Lib.hid hb
  clear hwc hwv hx hb
  go_enter Try.func16, Try.ntmps16
  go_wp2_with (first
    | ((with_reducible change wpList _ _ _ (⟨_, .load 48 (.tmp 1), _, _, _, _⟩ :: _) _ _); go_loud (refine wpList_load_row rfl 48 (.tmp 1) rfl w.heap.size rfl 48 (fx xs) (0, 0) _ HT.out.2.1 Try.underlying48 rfl H48.out ?_)))
  generalize (((w.alloc (.cells (fx xs) 48)).alloc (.cells #[.float .f32 0, .float .f32 0, .float .f32 0, .float .f32 0, .float .f32 0, .float .f32 0, .float .f32 0, .float .f32 0] 48)).alloc (.cells #[.float .f32 0, .float .f32 0, .float .f32 0, .float .f32 0, .float .f32 0, .float .f32 0, .float .f32 0, .float .f32 0] 48)) = W0 at *
  go_loop [10] (fun i => ∃ k : Nat, k ≤ 8 ∧ i = .int .i64 k) (fun i => 8 - (intOf i).toNat)
  case atStart => exact ⟨0, Nat.zero_le _, rfl⟩
  case round =>
    obtain ⟨k, hk, rfl⟩ := hrel
    by_cases hkm : k < 8
    · have hlt' : (k : Int) < 8 := by omega
      have hidx := HI.out k hkm
      have HS := Lib.hid (all_get HALL.out (show k < xs.length by rw [HX.out]; exact hkm))
      generalize xs.getD k 0 = x at *
      go_wp2_with (go_at_call 31; refine (isSample_calls x _).mono ?_; rw [HS.out]; rintro e w' ⟨rfl, rfl⟩)
      go_round
      case rel => exact ⟨k + 1, by omega, by go_num⟩
      case measure => simp [intOf]; omega
    · obtain rfl : k = 8 := by omega
      have hge : ¬ ((8 : Nat) : Int) < 8 := by omega
      go_wp2
      go_loopw [18] (fun i wr => ∃ (k : Nat) (os : List Nat), k ≤ 8 ∧ i = .int .u64 k ∧ Hid (OutsW (nums xs) os k ∧ TW w xs os wr)) (fun i _ => 8 - (intOf i).toNat)
      case atStart => exact ⟨0, zero8, Nat.zero_le _, rfl, Lib.hid ⟨OutsW.zero _, HT.out⟩⟩
      case round =>
        obtain ⟨k, os, hk, rfl, HO⟩ := hrel
        by_cases hlt : k < 8
        · have hlt' : (k : Int) < 8 := by omega
          have hk0 : (0 : Int) ≤ (k : Int) := by omega
          obtain ⟨wo, rfl⟩ : ∃ wo : World, wo = wr := ⟨_, rfl⟩
          go_wp2
          go_loopw [21] (fun i wr => ∃ (j u : Nat), j ≤ 8 ∧ i = .int .u64 j ∧ Hid (G fmt u (walshN (nums xs) k j) ∧ TW w xs (os.set k u) wr)) (fun i _ => 8 - (intOf i).toNat)
          case atStart => exact ⟨0, 0, Nat.zero_le _, rfl, Lib.hid ⟨gp_zero.1, by
            have h0 := HO.out.1.get hlt
            have : os.set k 0 = os := by
              obtain ⟨h1, h2⟩ := List.getElem?_eq_some_iff.1 h0
              rw [← h2, List.set_getElem_self]
            rw [this]; exact HO.out.2⟩⟩
          case round =>
            obtain ⟨j, u, hj, rfl, HJ⟩ := hrel
            by_cases hjl : j < 8
            · have hjl' : (j : Int) < 8 := by omega
              have hj0 : (0 : Int) ≤ (j : Int) := by omega
              have hc1 := HJ.out.2.cell (k := k) (x := u) (by rw [List.getElem?_set_self (by rw [HO.out.1.1]; exact hlt)])
              have hc2 := HJ.out.2.input (k := j) (by rw [HX.out]; exact hjl)
              have hfo := HJ.out.2.frozen k
              have hV := (sample_V (all_get HALL.out (show j < xs.length by rw [HX.out]; exact hjl))).1
              rw [← nums_get xs j (by rw [HX.out]; exact hjl)] at hV
              have hnb := HNB.out j
              have hwb := HWB.out k j
              have s1 : Small fmt (walshN (nums xs) k j) := small_of (by omega)
              obtain ⟨ra, ea, ga⟩ := add_V fmt_fine (HJ.out.1.V fmt_fine s1) hV (small_of (by omega))
              obtain ⟨rs, es, gs⟩ := sub_V fmt_fine (HJ.out.1.V fmt_fine s1) hV (small_of (by omega))
              have hadd := fadd ea
              have hsub := fsub es
              have hpc := pc_bound (and_lt hlt hjl)
              have hpar := pc_par hlt hjl
              have hand : bits .and .u64 (k : Int) (j : Int) = ((k &&& j : Nat) : Int) := bits_and_u64 hlt hjl
              have HONE := Lib.hid (fun W => ones_calls (k &&& j) (and_lt hlt hjl) W)
              cases hp : par k j with
              | true =>
                rw [hp, if_pos rfl] at hpar
                have hstep : walshN (nums xs) k (j + 1) = walshN (nums xs) k j + (nums xs).getD j 0 := by simp only [walshN]; rw [if_pos hp]
                have HNEW : Hid (G fmt ra (walshN (nums xs) k (j + 1)) ∧ TW w xs (os.set k ra) (wr.setCell ⟨w.heap.size + 1 + 1, k, none⟩ (.float .f32 ra)).drew) := Lib.hid ⟨by rw [hstep]; exact ga, by have := (HJ.out.2.set k ra).drew; rwa [List.set_set] at this⟩
                clear hV hnb hwb s1 es gs hsub ga ea hp hstep
                generalize xs.getD j 0 = x at *
                generalize hg : pc (k &&& j) = p at *
                clear hg
                go_wp2_with (go_at_call 32; go_loud (refine (HONE.out _).mono ?_; rintro e w' ⟨rfl, rfl⟩))
                refine wp_region_still_tail 8 (by kernel_rfl) (by kernel_rfl) ?_
                simp only [List.take_succ_cons, List.take_zero, List.drop_succ_cons, List.drop_zero]
                iterate 8 ((with_reducible refine wpStill_step (fun K hK => ?_)); have HK := Lib.hid hK; clear hK; go_simp; (with_reducible refine HK.out _ ?_); clear HK K)
                (with_reducible refine wpStill_nil ?_)
                go_wp2
                go_roundw
                case rel => exact ⟨j + 1, ra, by omega, by go_num, HNEW⟩
                case measure => simp [intOf]; omega
              | false =>
                rw [hp, if_neg (by decide)] at hpar
                have hstep : walshN (nums xs) k (j + 1) = walshN (nums xs) k j - (nums xs).getD j 0 := by simp only [walshN]; rw [if_neg (by rw [hp]; decide)]
                have HNEW : Hid (G fmt rs (walshN (nums xs) k (j + 1)) ∧ TW w xs (os.set k rs) (wr.setCell ⟨w.heap.size + 1 + 1, k, none⟩ (.float .f32 rs)).drew) := Lib.hid ⟨by rw [hstep]; exact gs, by have := (HJ.out.2.set k rs).drew; rwa [List.set_set] at this⟩
                clear hV hnb hwb s1 ea ga hadd gs es hp hstep
                generalize xs.getD j 0 = x at *
                generalize hg : pc (k &&& j) = p at *
                clear hg
                go_wp2_with (go_at_call 32; go_loud (refine (HONE.out _).mono ?_; rintro e w' ⟨rfl, rfl⟩))
                refine wp_region_still_tail 8 (by kernel_rfl) (by kernel_rfl) ?_
                simp only [List.take_succ_cons, List.take_zero, List.drop_succ_cons, List.drop_zero]
                iterate 8 ((with_reducible refine wpStill_step (fun K hK => ?_)); have HK := Lib.hid hK; clear hK; go_simp; (with_reducible refine HK.out _ ?_); clear HK K)
                (with_reducible refine wpStill_nil ?_)
                go_wp2
                go_roundw
                case rel => exact ⟨j + 1, rs, by omega, by go_num, HNEW⟩
                case measure => simp [intOf]; omega
            · obtain rfl : j = 8 := by omega
              have hjl' : ¬ ((8 : Nat) : Int) < 8 := by omega
              have hc1 := HJ.out.2.cell (k := k) (x := u) (by rw [List.getElem?_set_self (by rw [HO.out.1.1]; exact hlt)])
              have hfo := HJ.out.2.frozen k
              have hwb := HWB.out k 8
              have hp1 := plusW_G HJ.out.1 (small_of (by omega))
              have HNEW : Hid (OutsW (nums xs) (os.set k (plusW u)) (k + 1) ∧ TW w xs (os.set k (plusW u)) (wr.setCell ⟨w.heap.size + 1 + 1, k, none⟩ (.float .f32 (plusW u)))) := Lib.hid ⟨by rw [hp1]; exact HO.out.1.done hlt, by have := HJ.out.2.set k (plusW u); rwa [List.set_set] at this⟩
              clear hwb hp1
              go_wp2_with (go_at_call 23; refine (plus_calls u _).mono ?_; rintro e w' ⟨rfl, rfl⟩)
              go_roundw
              case rel => exact ⟨k + 1, _, by omega, by go_num, HNEW⟩
              case measure => simp [intOf]; omega
        · obtain rfl : k = 8 := by omega
          have hlt' : ¬ ((8 : Nat) : Int) < 8 := by omega
          obtain ⟨hbw, _, ⟨z, hz1, hz2⟩, ho⟩ := HO.out.2
          have hos : os = outW xs := HO.out.1.all
          have HZ := Lib.hid (And.intro hbw (And.intro hz1 (And.intro hz2 (And.intro ho (And.intro hos (size48 os HO.out.1.1))))))
          have HLEN := Lib.hid HO.out.1.1
          clear hbw hz1 hz2 ho hos
          go_wp2_with (first
            | ((with_reducible change wpList _ _ _ (⟨_, .load 48 (.tmp 4), _, _, _, _⟩ :: _) _ _); go_loud (refine wpList_load_row rfl 48 (.tmp 4) rfl (w.heap.size + 1 + 1) rfl 48 (fx os) (0, 0) _ HZ.out.2.2.2.1 Try.underlying48 rfl HZ.out.2.2.2.2.2 ?_))
            | ((with_reducible change wpList _ _ _ (⟨_, .store 48 (.tmp 2) (.tmp 54), _, _, _, _⟩ :: _) _ _); go_loud (refine wpList_store_row rfl 48 (.tmp 2) (.tmp 54) rfl (w.heap.size + 1) (fx os) rfl rfl 48 z HZ.out.2.1 HZ.out.2.2.2.2.2 (by rw [HZ.out.2.2.1, fx_size, HLEN.out]) (fx_one _) ?_)))
          refine bodyPost_ret (results_cell_tmp_row rfl _ _ (w.heap.size + 1) 48 (fx os) (0, 0) _ rfl (setRow_heap _ _ _ _ _ _ HZ.out.2.1) Try.underlying48 rfl HZ.out.2.2.2.2.2) rfl ?_
          exact ⟨by rw [HM.out.1, HM.out.2, ← HZ.out.2.2.2.2.1]; rfl, below_setRow HZ.out.1 (by omega) _⟩
theorem walsh_calls (xs : List Nat) (hx : xs.length = 8) (w : World) : Calls Try.prog 16 #[.agg (fx xs)] w fun e w' => WalshPost xs w e w' := by
  cases hb : xs.all sampleB with
  | true => exact walsh_good xs hx hb w
  | false => exact walsh_bad xs hx hb w
end Go.Proofs.Ytmmhflpeapojgaa
