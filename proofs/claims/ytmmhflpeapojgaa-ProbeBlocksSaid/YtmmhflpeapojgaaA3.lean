import Derived.Test.YtmmhflpeapojgaaA2
import Derived.LoopTactic
namespace Go.Proofs.Ytmmhflpeapojgaa
set_option linter.unusedVariables false
set_option linter.unusedSimpArgs false
open Go.RowKit Ieee
attribute [local go_sem] ints_get ints_size ints_getElem

theorem F_low : F fmt (-2048) = 3305111552 := by decide +kernel
theorem F_high : F fmt 2047 = 1157619712 := by decide +kernel
theorem V_low : V fmt 3305111552 (-2048) := by rw [← F_low]; exact V_F fmt_fine (small_of (by omega))
theorem V_high : V fmt 1157619712 2047 := by rw [← F_high]; exact V_F fmt_fine (small_of (by omega))
/-- Whether a word is a sample, and which. -/
def sampleB (x : Nat) : Bool := wholeB x 3305111552 1157619712
def smpN (x : Nat) : Int := if geB x 3305111552 = true ∧ leB x 1157619712 = true then trunc x else 0
theorem sample_V {x : Nat} (h : sampleB x = true) : V fmt x (smpN x) ∧ -2048 ≤ smpN x ∧ smpN x ≤ 2047 := by
  have h0 := h
  unfold sampleB wholeB at h0
  simp only [Bool.and_eq_true] at h0
  have e : smpN x = trunc x := by unfold smpN; rw [if_pos ⟨h0.1, h0.2.1⟩]
  rw [e]
  exact whole_V (by omega) (by omega) (by omega) (by omega) V_low V_high h
theorem isSample_calls (x : Nat) (w : World) : Calls Try.prog 31 #[.float .f32 x] w fun e w' => e = .returned (.bool (sampleB x)) ∧ w = w' := by
  have HS : Hid (sampleB x = wholeB x 3305111552 1157619712) := Lib.hid rfl
  go_enter Try.func31, Try.ntmps31
  go_wp2_with (go_at_call 43; refine (whole_calls x 3305111552 1157619712 (low := -2048) (high := 2047) (by omega) (by omega) (by omega) (by omega) V_low V_high _).mono ?_; rintro e w' ⟨rfl, rfl⟩)
  go_ret
  exact ⟨by rw [HS.out]; rfl, rfl⟩

theorem floatOf (n : Int) : floatOfInt .f32 n = F fmt n := rfl
set_option maxHeartbeats 400000 in
theorem integer_calls (x : Nat) (w : World) : Calls Try.prog 37 #[.float .f32 x, .int .i64 (-2048), .int .i64 2047] w fun e w' => e = .returned (.tuple #[.int .i64 (smpN x), .bool (sampleB x)]) ∧ w = w' := by
  have e1 : floatOfInt .f32 (-2048) = 3305111552 := F_low
  have e2 : floatOfInt .f32 2047 = 1157619712 := F_high
  cases hg : geB x 3305111552 with
  | false =>
    have hr : sampleB x = false := by unfold sampleB wholeB; rw [hg]; rfl
    have hn : smpN x = 0 := by unfold smpN; rw [hg]; simp
    unfold geB at hg
    rw [hr, hn]
    clear hr hn
    go_enter Try.func37, Try.ntmps37
    go_wp2
    go_ret2
    exact ⟨rfl, rfl⟩
  | true =>
    cases hle : leB x 1157619712 with
    | false =>
      have hr : sampleB x = false := by unfold sampleB wholeB; rw [hg, hle]; rfl
      have hn : smpN x = 0 := by unfold smpN; rw [hle]; simp
      unfold geB at hg
      unfold leB at hle
      rw [hr, hn]
      clear hr hn
      go_enter Try.func37, Try.ntmps37
      go_wp2
      go_ret2
      exact ⟨rfl, rfl⟩
    | true =>
      obtain ⟨ht, t0, t1⟩ := trunc_between (by omega) (by omega) V_low V_high hg hle
      have hr : sampleB x = eqB (F fmt (trunc x)) x := by rw [eqB_swap x (small_of (by omega))]; unfold sampleB wholeB; rw [hg, hle]; simp
      have hn : smpN x = trunc x := by unfold smpN; rw [if_pos ⟨hg, hle⟩]
      have hcv := conv_int x (trunc x) ht (by omega) (by omega)
      unfold geB at hg
      unfold leB at hle
      rw [hr, hn]
      have HQ : Hid (eqB (F fmt (trunc x)) x = (FloatKind.f32.format.order (floatOfInt .f32 (trunc x)) x == some .eq)) := Lib.hid rfl
      generalize trunc x = n at *
      clear hr hn ht
      go_enter Try.func37, Try.ntmps37
      go_wp2
      go_ret2
      exact ⟨by rw [HQ.out]; rfl, rfl⟩
theorem rsample_calls (x : Nat) (w : World) : Calls Try.prog 26 #[.float .f32 x] w fun e w' => e = .returned (.tuple #[.int .i64 (smpN x), .bool (sampleB x)]) ∧ w = w' := by
  go_enter Try.func26, Try.ntmps26
  go_wp2_with (go_at_call 37; refine (integer_calls x _).mono ?_; rintro e w' ⟨rfl, rfl⟩)
  go_ret2
  exact ⟨rfl, rfl⟩

/-- A number, but 0 for a negative zero. -/
def plusW (x : Nat) : Nat := if eqB x 0 = true then 0 else x
theorem V_zero : V fmt 0 0 := by have := V_F fmt_fine (n := 0) (small_of (by omega)); rwa [F_zero] at this
theorem plusW_G {x : Nat} {n : Int} (h : G fmt x n) (hn : Small fmt n) : plusW x = F fmt n := by
  have ho : FloatKind.f32.format.order x 0 = some (compare n 0) := order_V (h.V fmt_fine hn) V_zero
  unfold plusW eqB
  rw [ho]
  by_cases h0 : n = 0
  · subst h0; rw [F_zero]; rfl
  · rw [if_neg, h.ne fmt_fine hn h0]
    intro hc
    have := cmp_eq (a := n) (b := 0) (by simpa using hc)
    exact h0 this
theorem plus_calls (x : Nat) (w : World) : Calls Try.prog 23 #[.float .f32 x] w fun e w' => e = .returned (.float .f32 (plusW x)) ∧ w = w' := by
  cases hq : eqB x 0 with
  | false =>
    have hp : plusW x = x := by unfold plusW; rw [hq]; simp
    unfold eqB at hq
    rw [hp]
    clear hp
    go_enter Try.func23, Try.ntmps23
    go_wp2
    go_ret
    exact ⟨rfl, rfl⟩
  | true =>
    have hp : plusW x = 0 := by unfold plusW; rw [hq]; simp
    unfold eqB at hq
    rw [hp]
    clear hp
    go_enter Try.func23, Try.ntmps23
    go_wp2
    go_ret
    exact ⟨rfl, rfl⟩
theorem clean_calls (x y : Nat) (w : World) : Calls Try.prog 40 #[.complex .f32 x y] w fun e w' => e = .returned (.complex .f32 (plusW x) (plusW y)) ∧ w = w' := by
  go_enter Try.func40, Try.ntmps40
  go_wp2_with fail
  refine (plus_calls x _).mono ?_
  rintro e w' ⟨rfl, rfl⟩
  go_wp2_with fail
  refine (plus_calls y _).mono ?_
  rintro e w' ⟨rfl, rfl⟩
  go_wp2
  go_ret
  exact ⟨rfl, rfl⟩
end Go.Proofs.Ytmmhflpeapojgaa
