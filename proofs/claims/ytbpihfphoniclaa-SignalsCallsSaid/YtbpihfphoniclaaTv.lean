/- SignalsCalls for every list of calls. -/
import Derived.Test.YtbpihfphoniclaaqTd
namespace Go.Proofs.Ytbpihfphoniclaa
open Go.RowKit
set_option linter.unusedVariables false
theorem calls_big (A : Option Addr) (cap : Nat) (l : List OpT) (w : World) (h50 : ¬ l.length ≤ 50) :
    Calls Try.prog 7 #[.slice A l.length cap] w fun e w' => e = .returned (.bool true) ∧ Below w.heap.size w w' := by
  have hng : (50 : Int) < (l.length : Int) := by omega
  go_enter Try.func7, Try.ntmps7
  go_wp2_with fail
  refine (awake_calls _).mono ?_
  rintro e wz ⟨rfl, hb⟩
  have HZ := Lib.hid hb
  clear hb
  go_wp2
  go_ret
  exact ⟨rfl, HZ.out⟩
theorem calls_row (A : Option Addr) (cap : Nat) (l : List OpT) (w : World) (hl : OC w A l) (_ : l.length ≤ 140737488351232) :
    Calls Try.prog 7 #[.slice A l.length cap] w fun e w' => e = .returned (.bool true) ∧ Below w.heap.size w w' := by
  by_cases h : l.length ≤ 50
  · exact calls_law A cap l w hl h
  · exact calls_big A cap l w h
end Go.Proofs.Ytbpihfphoniclaa
