import Derived.Test.YtmmhflpeapojgaaC4
namespace Go.Proofs.Ytmmhflpeapojgaa
set_option linter.unusedVariables false
set_option linter.unusedSimpArgs false
open Go.RowKit Ieee
attribute [local go_sem] ints_get ints_size ints_getElem

theorem smp_bound (x : Nat) : -2048 ≤ smpN x ∧ smpN x ≤ 2047 := by
  unfold smpN
  split
  · rename_i h
    exact (trunc_between (by omega) (by omega) V_low V_high h.1 h.2).2
  · omega
theorem nums_bd (xs : List Nat) (i : Nat) : -2048 ≤ (nums xs).getD i 0 ∧ (nums xs).getD i 0 ≤ 2047 := by
  rcases Nat.lt_or_ge i xs.length with hi | hi
  · rw [nums_get xs i hi]
    exact smp_bound _
  · rw [List.getD_eq_getElem?_getD, List.getElem?_eq_none (by simpa [nums] using hi)]
    simp
def m4 (k j : Nat) : Int := ((k / 4 % 2 * (j / 4 % 2) : Nat) : Int)
def m2 (k j : Nat) : Int := ((k / 2 % 2 * (j / 2 % 2) : Nat) : Int)
def m1 (k j : Nat) : Int := ((k % 2 * (j % 2) : Nat) : Int)
theorem mm' : ∀ k j : Fin 8, wrap64 ((k.1 : Int) / 4 % 2 * ((j.1 : Int) / 4 % 2)) = m4 k.1 j.1 ∧ wrap64 ((k.1 : Int) / 2 % 2 * ((j.1 : Int) / 2 % 2)) = m2 k.1 j.1 ∧ wrap64 ((k.1 : Int) % 2 * ((j.1 : Int) % 2)) = m1 k.1 j.1 ∧
    (0 ≤ m4 k.1 j.1 ∧ m4 k.1 j.1 ≤ 1) ∧ (0 ≤ m2 k.1 j.1 ∧ m2 k.1 j.1 ≤ 1) ∧ (0 ≤ m1 k.1 j.1 ∧ m1 k.1 j.1 ≤ 1) ∧ ((m4 k.1 j.1 + m2 k.1 j.1 + m1 k.1 j.1) % 2 == 1) = !par k.1 j.1 := by decide +kernel
theorem mm {k j : Nat} (hk : k < 8) (hj : j < 8) : wrap64 ((k : Int) / 4 % 2 * ((j : Int) / 4 % 2)) = m4 k j ∧ wrap64 ((k : Int) / 2 % 2 * ((j : Int) / 2 % 2)) = m2 k j ∧ wrap64 ((k : Int) % 2 * ((j : Int) % 2)) = m1 k j ∧
    (0 ≤ m4 k j ∧ m4 k j ≤ 1) ∧ (0 ≤ m2 k j ∧ m2 k j ≤ 1) ∧ (0 ≤ m1 k j ∧ m1 k j ≤ 1) ∧ ((m4 k j + m2 k j + m1 k j) % 2 == 1) = !par k j := mm' ⟨k, hk⟩ ⟨j, hj⟩
set_option maxHeartbeats 4000000 in
theorem rwalsh_calls (xs : List Nat) (hx : xs.length = 8) (w : World) : Calls Try.prog 17 #[.agg (fx xs)] w fun e w' => WalshPost xs w e w' := by
  have HT : Hid (TW w xs zero8 (((w.alloc (.cells (fx xs) 48)).alloc (.cells #[.float .f32 0, .float .f32 0, .float .f32 0, .float .f32 0, .float .f32 0, .float .f32 0, .float .f32 0, .float .f32 0] 48)).alloc (.cells #[.float .f32 0, .float .f32 0, .float .f32 0, .float .f32 0, .float .f32 0, .float .f32 0, .float .f32 0, .float .f32 0] 48))) := Lib.hid (TW.start w xs)
  have HNB := Lib.hid (nums_bd xs)
  have HWB := Lib.hid (fun k => walshN_bound (nums_bd xs) k)
  have HX := Lib.hid hx
  clear hx
  go_enter Try.func17, Try.ntmps17
  go_wp2
  generalize (((w.alloc (.cells (fx xs) 48)).alloc (.cells #[.float .f32 0, .float .f32 0, .float .f32 0, .float .f32 0, .float .f32 0, .float .f32 0, .float .f32 0, .float .f32 0] 48)).alloc (.cells #[.float .f32 0, .float .f32 0, .float .f32 0, .float .f32 0, .float .f32 0, .float .f32 0, .float .f32 0, .float .f32 0] 48)) = W0 at *
  go_loopw [5] (fun i wr => ∃ (k : Nat) (os : List Nat), k ≤ 8 ∧ i = .int .i64 k ∧ Hid (OutsW (nums xs) os k ∧ TW w xs os wr ∧ (k = 0 ∨ xs.all sampleB = true))) (fun i _ => 8 - (intOf i).toNat)
  case atStart => exact ⟨0, zero8, Nat.zero_le _, rfl, Lib.hid ⟨OutsW.zero _, HT.out, .inl rfl⟩⟩
  case round =>
    obtain ⟨k, os, hk, rfl, HO⟩ := hrel
    by_cases hlt : k < 8
    · have hlt' : (k : Int) < 8 := by omega
      have hk0 : (0 : Int) ≤ (k : Int) := by omega
      obtain ⟨wo, rfl⟩ : ∃ wo : World, wo = wr := ⟨_, rfl⟩
      go_wp2
      go_loopw [6, 7] (fun s i wr => ∃ j : Nat, j ≤ 8 ∧ i = .int .i64 j ∧ s = .int .i64 (walshN (nums xs) k j) ∧ Hid ((xs.take j).all sampleB = true ∧ wo = wr)) (fun _ i _ => 8 - (intOf i).toNat)
      case atStart => exact ⟨0, Nat.zero_le _, rfl, rfl, Lib.hid ⟨by simp, rfl⟩⟩
      case round =>
        obtain ⟨j, hj, rfl, rfl, HJ⟩ := hrel
        obtain ⟨hall, rfl⟩ := HJ.out
        by_cases hjl : j < 8
        · have hjl' : (j : Int) < 8 := by omega
          have hj0 : (0 : Int) ≤ (j : Int) := by omega
          have hc2 := HO.out.2.1.input (k := j) (by rw [HX.out]; exact hjl)
          have hts := all_take_succ (l := xs) (k := j) (by rw [HX.out]; exact hjl)
          rw [hall, Bool.true_and] at hts
          have hna := not_all (l := xs) (k := j) (by rw [HX.out]; exact hjl)
          have hnb := HNB.out j
          have hwb := HWB.out k j
          have hng : (nums xs).getD j 0 = smpN (xs.getD j 0) := nums_get xs j (by rw [HX.out]; exact hjl)
          have hw1 : walshN (nums xs) k (j + 1) = if par k j = true then walshN (nums xs) k j + smpN (xs.getD j 0) else walshN (nums xs) k j - smpN (xs.getD j 0) := by rw [← hng]; rfl
          rw [hng] at hnb
          obtain ⟨e4, e2, e1, b4, b2, b1, ep⟩ := mm hlt hjl
          generalize xs.getD j 0 = x at *
          generalize walshN (nums xs) k j = sm at *
          have HS := Lib.hid (And.intro hts (And.intro hna hw1))
          clear hts hna hw1 hall hng
          cases hsx : sampleB x with
          | false =>
            have HB1 := Lib.hid (HS.out.2.1 hsx)
            obtain ⟨hbw, _, ⟨z, hz1, hz2⟩, _⟩ := HO.out.2.1
            have HZ := Lib.hid (And.intro hbw (And.intro hz1 hz2))
            clear hbw hz1 hz2 e4 e2 e1 ep b4 b2 b1
            go_wp2_with (first
              | (go_at_call 26; refine (rsample_calls x _).mono ?_; rw [hsx]; rintro e w' ⟨rfl, rfl⟩)
              | ((with_reducible change wpList _ _ _ (⟨_, .store 48 (.tmp 2) (.tmp 27), _, _, _, _⟩ :: _) _ _); go_loud (refine wpList_store_row rfl 48 (.tmp 2) (.tmp 27) rfl (w.heap.size + 1) (fx zero8) rfl rfl 48 z HZ.out.2.1 (by kernel_rfl) HZ.out.2.2 (fx_one _) ?_)))
            refine bodyPost_ret (results_cell_tmp_row rfl _ _ (w.heap.size + 1) 48 (fx zero8) (0, 0) _ rfl (setRow_heap _ _ _ _ _ _ HZ.out.2.1) Try.underlying48 rfl (by kernel_rfl)) rfl ?_
            refine ⟨?_, below_setRow HZ.out.1 (by omega) _⟩
            rw [show wval xs = zero8 by unfold wval; rw [HB1.out]; simp, show wcode xs = 34 by unfold wcode; rw [HB1.out]; simp]
            rfl
          | true =>
            have hts := HS.out.1
            rw [hsx] at hts
            have HTS := Lib.hid hts
            clear hts
            generalize m4 k j = q4 at *
            generalize m2 k j = q2 at *
            generalize m1 k j = q1 at *
            cases hp : par k j with
            | true =>
              rw [hp] at ep
              have hw1 := HS.out.2.2
              rw [hp, if_pos rfl] at hw1
              have HW1 := Lib.hid hw1
              have ep' : ((q4 + q2 + q1) % 2 == 1) = false := ep
              clear hw1 hp ep
              go_wp2_with (go_at_call 26; refine (rsample_calls x _).mono ?_; rw [hsx]; rintro e w' ⟨rfl, rfl⟩)
              go_roundw
              case rel => exact ⟨j + 1, by omega, by go_num, by rw [HW1.out], Lib.hid ⟨HTS.out, (by first | rfl | trivial)⟩⟩
              case measure => simp [intOf]; omega
            | false =>
              rw [hp] at ep
              have hw1 := HS.out.2.2
              rw [hp, if_neg (by decide)] at hw1
              have HW1 := Lib.hid hw1
              have ep' : ((q4 + q2 + q1) % 2 == 1) = true := ep
              have hodd : (q4 + q2 + q1) % 2 = 1 := by simpa using ep'
              clear hw1 hp ep
              go_wp2_with (go_at_call 26; refine (rsample_calls x _).mono ?_; rw [hsx]; rintro e w' ⟨rfl, rfl⟩)
              go_roundw
              case rel => exact ⟨j + 1, by omega, by go_num, by rw [HW1.out]; go_num, Lib.hid ⟨HTS.out, (by first | rfl | trivial)⟩⟩
              case measure => simp [intOf]; omega
        · obtain rfl : j = 8 := by omega
          have hjl' : ¬ ((8 : Nat) : Int) < 8 := by omega
          have HALL : Hid (xs.all sampleB = true) := Lib.hid (by have := hall; rwa [List.take_of_length_le (by rw [HX.out]; omega)] at this)
          have hc1 := HO.out.2.1.cell (k := k) (x := 0) (HO.out.1.get hlt)
          have hfo := HO.out.2.1.frozen k
          have HNEW : Hid (OutsW (nums xs) (os.set k (F fmt (walshN (nums xs) k 8))) (k + 1) ∧ TW w xs (os.set k (F fmt (walshN (nums xs) k 8))) (wo.setCell ⟨w.heap.size + 1 + 1, k, none⟩ (.float .f32 (floatOfInt .f32 (walshN (nums xs) k 8))))) := Lib.hid ⟨HO.out.1.done hlt, HO.out.2.1.set k (F fmt (walshN (nums xs) k 8))⟩
          clear hall
          generalize walshN (nums xs) k 8 = sm at *
          go_wp2
          go_roundw
          case rel => exact ⟨k + 1, _, by omega, by go_num, Lib.hid ⟨HNEW.out.1, HNEW.out.2, .inr HALL.out⟩⟩
          case measure => simp [intOf]; omega
    · obtain rfl : k = 8 := by omega
      have hlt' : ¬ ((8 : Nat) : Int) < 8 := by omega
      obtain ⟨hbw, _, ⟨z, hz1, hz2⟩, ho⟩ := HO.out.2.1
      have hos : os = outW xs := HO.out.1.all
      have hall : xs.all sampleB = true := by rcases HO.out.2.2 with h | h; omega; exact h
      have HZ := Lib.hid (And.intro hbw (And.intro hz1 (And.intro hz2 (And.intro ho (And.intro hos (size48 os HO.out.1.1))))))
      have HLEN := Lib.hid HO.out.1.1
      have HALL := Lib.hid hall
      clear hbw hz1 hz2 ho hos hall
      go_wp2_with (first
        | ((with_reducible change wpList _ _ _ (⟨_, .load 48 (.tmp 4), _, _, _, _⟩ :: _) _ _); go_loud (refine wpList_load_row rfl 48 (.tmp 4) rfl (w.heap.size + 1 + 1) rfl 48 (fx os) (0, 0) _ HZ.out.2.2.2.1 Try.underlying48 rfl HZ.out.2.2.2.2.2 ?_))
        | ((with_reducible change wpList _ _ _ (⟨_, .store 48 (.tmp 2) (.tmp 60), _, _, _, _⟩ :: _) _ _); go_loud (refine wpList_store_row rfl 48 (.tmp 2) (.tmp 60) rfl (w.heap.size + 1) (fx os) rfl rfl 48 z HZ.out.2.1 HZ.out.2.2.2.2.2 (by rw [HZ.out.2.2.1, fx_size, HLEN.out]) (fx_one _) ?_)))
      refine bodyPost_ret (results_cell_tmp_row rfl _ _ (w.heap.size + 1) 48 (fx os) (0, 0) _ rfl (setRow_heap _ _ _ _ _ _ HZ.out.2.1) Try.underlying48 rfl HZ.out.2.2.2.2.2) rfl ?_
      refine ⟨?_, below_setRow HZ.out.1 (by omega) _⟩
      rw [show wval xs = outW xs by unfold wval; rw [if_pos HALL.out], show wcode xs = 0 by unfold wcode; rw [if_pos HALL.out], ← HZ.out.2.2.2.2.1]
      rfl
end Go.Proofs.Ytmmhflpeapojgaa
