import Derived.Test.YtmmhflpeapojgaaD3
namespace Go.Proofs.Ytmmhflpeapojgaa
set_option linter.unusedVariables false
set_option linter.unusedSimpArgs false
open Go.RowKit Ieee
attribute [local go_sem] ints_get ints_size ints_getElem

theorem ccode_zero {a b : List Nat} {lag : Int} (h : ccode a b lag = 0) : scode a = 0 ∧ scode b = 0 ∧ -4096 ≤ lag ∧ lag ≤ 4096 := by
  unfold ccode at h
  by_cases h1 : scode a = 0
  · rw [if_neg (by simpa using h1)] at h
    by_cases h2 : scode b = 0
    · rw [if_neg (by simpa using h2)] at h
      by_cases h3 : lag < -4096 ∨ 4096 < lag
      · rw [if_pos h3] at h; cases h
      · exact ⟨h1, h2, by omega, by omega⟩
    · rw [if_pos h2] at h; exact absurd h h2
  · rw [if_pos h1] at h; exact absurd h h1
theorem conv_sample {x : Nat} (h : sampleB x = true) (W : World) : (convert 27 2 (.float .f32 x)).run Try.prog W = .ok (.int .i64 (smpN x)) W := by
  obtain ⟨h1, h2, h3⟩ := sample_V h
  exact conv_int x (smpN x) (toInt_V h1) (by omega) (by omega) W
set_option maxHeartbeats 4000000 in
theorem corr_good (A : Option Addr) (ca : Nat) (a : List Nat) (B : Option Addr) (cb : Nat) (b : List Nat) (lag : Int) (w : World) (hA : FC w A a) (hB : FC w B b) (h0 : ccode a b lag = 0) :
    Calls Try.prog 10 #[.slice A a.length ca, .slice B b.length cb, .int .i64 lag] w fun e w' => CorPost a b lag w e w' := by
  have HA := Lib.hid hA
  have HBB := Lib.hid hB
  have HB := Lib.hid ((Below.refl w.heap.size w).alloc (Nat.le_refl _) (.cells #[.slice A a.length ca, .slice B b.length cb] 22))
  obtain ⟨hsa, hsb, hg0, hg1⟩ := ccode_zero h0
  obtain ⟨ha, haa⟩ := scode_zero hsa
  obtain ⟨hb, hbb⟩ := scode_zero hsb
  have HS := Lib.hid (And.intro hsa hsb)
  have HALL := Lib.hid (And.intro haa hbb)
  have HCC : Hid (ccode a b lag = 0 ∧ cval a b lag = corTo (nums a) (nums b) lag b.length a.length) := Lib.hid ⟨h0, by unfold cval; rw [if_pos h0]⟩
  have HCB := Lib.hid (corTo_bound (nums_bd a) (nums_bd b) lag b.length)
  have d1 : decide (lag < -4096) = false := by simp; omega
  have d2 : decide (4096 < lag) = false := by simp; omega
  have e1 : ¬ lag < -4096 := by omega
  have e2 : ¬ 4096 < lag := by omega
  clear hA hB hsa hsb haa hbb h0
  go_enter Try.func10, Try.ntmps10
  go_wp2
  refine wp_loop_rounds 3 ?_
  rw [rounds_succ]
  go_wp2_with (go_at_call 18; refine (samples_calls A ca a _ (by omega) (HA.out.below HB.out)).mono ?_; rw [HS.out.1]; rintro e w' ⟨rfl, rfl⟩)
  rw [rounds_succ]
  go_wp2_with (go_at_call 18; refine (samples_calls B cb b _ (by omega) (HBB.out.below HB.out)).mono ?_; rw [HS.out.2]; rintro e w' ⟨rfl, rfl⟩)
  rw [rounds_succ]
  go_wp2
  generalize (w.alloc (.cells #[.slice A a.length ca, .slice B b.length cb] 22)) = W0 at *
  go_loop [11, 37] (fun s i => ∃ k : Nat, k ≤ a.length ∧ i = .int .i64 k ∧ s = .int .i64 (corTo (nums a) (nums b) lag b.length k)) (fun _ i => a.length - (intOf i).toNat)
  case atStart => exact ⟨0, Nat.zero_le _, rfl, rfl⟩
  case round =>
    obtain ⟨k, hk, rfl, rfl⟩ := hrel
    by_cases hlt : k < a.length
    · have hlt' : (k : Int) < (a.length : Int) := by omega
      obtain ⟨ad, rfl, hcx⟩ := HA.out.below HB.out k hlt
      have hcv := conv_sample (all_get HALL.out.1 hlt)
      have hnx : (nums a).getD k 0 = smpN (a.getD k 0) := nums_get a k hlt
      have hbx := smp_bound (a.getD k 0)
      have hcb := HCB.out k
      have hst : corTo (nums a) (nums b) lag b.length (k + 1) = corTo (nums a) (nums b) lag b.length k + (if 0 ≤ (k : Int) + lag ∧ (k : Int) + lag < b.length then (nums a).getD k 0 * (nums b).getD ((k : Int) + lag).toNat 0 else 0) := rfl
      rw [hnx] at hst
      generalize a.getD k 0 = x at *
      by_cases hin : 0 ≤ ((k : Int) + lag) ∧ ((k : Int) + lag) < (b.length : Int)
      · obtain ⟨ad2, rfl, hcy⟩ := HBB.out.below HB.out ((k : Int) + lag).toNat (by omega)
        have hcw := conv_sample (all_get HALL.out.2 (show ((k : Int) + lag).toNat < b.length by omega))
        have hny : (nums b).getD ((k : Int) + lag).toNat 0 = smpN (b.getD ((k : Int) + lag).toNat 0) := nums_get b ((k : Int) + lag).toNat (by omega)
        have hby := smp_bound (b.getD ((k : Int) + lag).toNat 0)
        have hmb := mul_bound hbx hby
        rw [if_pos hin, hny] at hst
        have HST := Lib.hid hst
        clear hst hnx hny
        generalize b.getD ((k : Int) + lag).toNat 0 = y at *
        generalize corTo (nums a) (nums b) lag b.length k = sm at *
        obtain ⟨m, hm⟩ : ∃ m, smpN x * smpN y = m := ⟨_, rfl⟩
        have hw : wrap64 (smpN x * smpN y) = smpN x * smpN y := by unfold wrap64; omega
        replace hw := hw.trans hm
        rw [hm] at hmb
        have HM := Lib.hid hm
        have hz0 := hin.1
        have hz1 := hin.2
        have f1 : decide (0 ≤ ((k : Int) + lag)) = true := decide_eq_true hz0
        have f2 : decide (((k : Int) + lag) < (b.length : Int)) = true := decide_eq_true hz1
        clear hm hin
        go_wp2
        go_round
        case rel => exact ⟨k + 1, by omega, by go_num, by rw [HST.out, HM.out]⟩
        case measure => simp [intOf]; omega
      · rw [if_neg hin, Int.add_zero] at hst
        have HST := Lib.hid hst
        clear hst
        rcases (show ((k : Int) + lag) < 0 ∨ (0 ≤ ((k : Int) + lag) ∧ (b.length : Int) ≤ ((k : Int) + lag)) by omega) with g1 | ⟨g1, g2⟩
        · have f1 : decide (0 ≤ ((k : Int) + lag)) = false := by simp; omega
          have g1' : ¬ 0 ≤ ((k : Int) + lag) := by omega
          generalize corTo (nums a) (nums b) lag b.length k = sm at *
          clear hin
          go_wp2
          go_round
          case rel => exact ⟨k + 1, by omega, by go_num, by rw [HST.out]⟩
          case measure => simp [intOf]; omega
        · have f1 : decide (0 ≤ ((k : Int) + lag)) = true := decide_eq_true g1
          have f2 : decide (((k : Int) + lag) < (b.length : Int)) = false := by simp; omega
          have g2' : ¬ ((k : Int) + lag) < (b.length : Int) := by omega
          generalize corTo (nums a) (nums b) lag b.length k = sm at *
          clear hin
          go_wp2
          go_round
          case rel => exact ⟨k + 1, by omega, by go_num, by rw [HST.out]⟩
          case measure => simp [intOf]; omega
    · obtain rfl : k = a.length := by omega
      have hge : ¬ (a.length : Int) < (a.length : Int) := by omega
      go_wp2
      go_ret2
      exact ⟨by rw [HCC.out.1, HCC.out.2]; rfl, HB.out⟩
theorem corr_calls (A : Option Addr) (ca : Nat) (a : List Nat) (B : Option Addr) (cb : Nat) (b : List Nat) (lag : Int) (w : World) (ha : a.length ≤ 9223372036854775807) (hb : b.length ≤ 9223372036854775807) (hA : FC w A a) (hB : FC w B b) :
    Calls Try.prog 10 #[.slice A a.length ca, .slice B b.length cb, .int .i64 lag] w fun e w' => CorPost a b lag w e w' := by
  by_cases h : ccode a b lag = 0
  · exact corr_good A ca a B cb b lag w hA hB h
  · exact corr_bad A ca a B cb b lag w ha hb hA hB h
end Go.Proofs.Ytmmhflpeapojgaa
