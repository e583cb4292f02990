import Derived.Test.YtmmhflpeapojgaaA1
import Derived.Test.YtmmhflpeapojgaaProg
import Derived.Tactics
import Derived.WalkKit
import Derived.KernelRfl
namespace Go.Proofs.Ytmmhflpeapojgaa
set_option linter.unusedVariables false
set_option linter.unusedSimpArgs false
open Go.RowKit Ieee
attribute [local go_sem] ints_get ints_size ints_getElem

theorem conv_int (x : Nat) (n : Int) (h : (fmt.read x).toInt .zero = some n) (h0 : -9223372036854775808 ≤ n) (h1 : n ≤ 9223372036854775807) (W : World) : (convert 27 2 (.float .f32 x)).run Try.prog W = .ok (.int .i64 n) W :=
  run_convert_float_int W 27 2 .f32 .i64 x n (by kernel_rfl) Try.underlying2 (toIntVal h h0 h1)

set_option maxHeartbeats 400000 in
theorem whole_calls (x lo hi : Nat) {low high : Int} (hl : low ≤ 0) (hh : 0 ≤ high) (hlo : -1000000 ≤ low) (hhi : high ≤ 1000000) (hy : V fmt lo low) (hz : V fmt hi high) (w : World) :
    Calls Try.prog 43 #[.float .f32 x, .float .f32 lo, .float .f32 hi] w fun e w' => e = .returned (.bool (wholeB x lo hi)) ∧ w = w' := by
  cases hg : geB x lo with
  | false =>
    have hr : wholeB x lo hi = false := by unfold wholeB; rw [hg]; rfl
    unfold geB at hg
    rw [hr]
    clear hr hy hz
    go_enter Try.func43, Try.ntmps43
    go_wp2
    go_ret
    exact ⟨rfl, rfl⟩
  | true =>
    cases hle : leB x hi with
    | false =>
      have hr : wholeB x lo hi = false := by unfold wholeB; rw [hg, hle]; rfl
      unfold geB at hg
      unfold leB at hle
      rw [hr]
      clear hr hy hz
      go_enter Try.func43, Try.ntmps43
      go_wp2
      go_ret
      exact ⟨rfl, rfl⟩
    | true =>
      obtain ⟨ht, t0, t1⟩ := trunc_between hl hh hy hz hg hle
      have hr : wholeB x lo hi = eqB x (F fmt (trunc x)) := by unfold wholeB; rw [hg, hle]; simp
      have hcv := conv_int x (trunc x) ht (by omega) (by omega)
      unfold geB at hg
      unfold leB at hle
      rw [hr]
      have HQ : Hid (eqB x (F fmt (trunc x)) = (FloatKind.f32.format.order x (FloatKind.f32.nearest (trunc x)) == some .eq)) := Lib.hid rfl
      generalize trunc x = n at *
      clear hr hy hz ht
      go_enter Try.func43, Try.ntmps43
      go_wp2
      go_ret
      exact ⟨by rw [HQ.out]; rfl, rfl⟩
end Go.Proofs.Ytmmhflpeapojgaa
