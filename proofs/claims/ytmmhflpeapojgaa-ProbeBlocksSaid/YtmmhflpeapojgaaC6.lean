import Derived.Test.YtmmhflpeapojgaaC5
namespace Go.Proofs.Ytmmhflpeapojgaa
set_option linter.unusedVariables false
set_option linter.unusedSimpArgs false
open Go.RowKit Ieee
attribute [local go_sem] ints_get ints_size ints_getElem

theorem call27 (x : Nat) (W : World) : (callFunc 27 #[.float .f32 x]).run Try.prog W = .ok (.value (.int .u32 x)) W := by kernel_rfl
theorem bits_calls (x y : Nat) (w : World) : Calls Try.prog 9 #[.float .f32 x, .float .f32 y] w fun e w' => e = .returned (.bool ((x : Int) == (y : Int))) ∧ w = w' := by
  have h1 := call27 x
  have h2 := call27 y
  go_enter Try.func9, Try.ntmps9
  go_wp2
  go_ret
  exact ⟨rfl, rfl⟩
/-- The same word. -/
theorem bits_same (x : Nat) (w : World) : Calls Try.prog 9 #[.float .f32 x, .float .f32 x] w fun e w' => e = .returned (.bool true) ∧ w = w' := by
  have := bits_calls x x w
  simpa using this
end Go.Proofs.Ytmmhflpeapojgaa
