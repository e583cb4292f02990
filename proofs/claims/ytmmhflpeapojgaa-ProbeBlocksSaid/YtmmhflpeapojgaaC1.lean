import Derived.Test.YtmmhflpeapojgaaB4
namespace Go.Proofs.Ytmmhflpeapojgaa
set_option linter.unusedVariables false
set_option linter.unusedSimpArgs false
open Go.RowKit Ieee
attribute [local go_sem] ints_get ints_size ints_getElem

def pc (m : Nat) : Int := ([0, 1, 1, 2, 1, 2, 2, 3] : List Int).getD m 0
theorem ones_calls (m : Nat) (h : m < 8) (w : World) : Calls Try.prog 32 #[.int .u64 m] w fun e w' => e = .returned (.int .i64 (pc m)) ∧ w = w' := by
  have key : Calls Try.prog 45 #[.int .u64 m] w fun e w' => e = .returned (.int .i64 (pc m)) ∧ w = w' := by
    match m, h with
    | 0, _ => go_enter Try.func45, Try.ntmps45; go_wp2; go_ret; exact ⟨by kernel_rfl, rfl⟩
    | 1, _ => go_enter Try.func45, Try.ntmps45; go_wp2; go_ret; exact ⟨by kernel_rfl, rfl⟩
    | 2, _ => go_enter Try.func45, Try.ntmps45; go_wp2; go_ret; exact ⟨by kernel_rfl, rfl⟩
    | 3, _ => go_enter Try.func45, Try.ntmps45; go_wp2; go_ret; exact ⟨by kernel_rfl, rfl⟩
    | 4, _ => go_enter Try.func45, Try.ntmps45; go_wp2; go_ret; exact ⟨by kernel_rfl, rfl⟩
    | 5, _ => go_enter Try.func45, Try.ntmps45; go_wp2; go_ret; exact ⟨by kernel_rfl, rfl⟩
    | 6, _ => go_enter Try.func45, Try.ntmps45; go_wp2; go_ret; exact ⟨by kernel_rfl, rfl⟩
    | 7, _ => go_enter Try.func45, Try.ntmps45; go_wp2; go_ret; exact ⟨by kernel_rfl, rfl⟩
  have HK := Lib.hid key
  clear key
  go_enter Try.func32, Try.ntmps32
  go_wp2_with (go_at_call 45; refine HK.out.mono ?_; rintro e w' ⟨rfl, rfl⟩)
  go_ret
  exact ⟨rfl, rfl⟩
end Go.Proofs.Ytmmhflpeapojgaa
