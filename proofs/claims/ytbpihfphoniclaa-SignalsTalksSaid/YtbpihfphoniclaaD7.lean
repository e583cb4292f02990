/- A call of any kind (18); a small call (19); the calls that start the threads (17). -/
import Derived.Test.YtbpihfphoniclaaD1
import Derived.Test.YtbpihfphoniclaaS5
import Derived.BigQuiet
namespace Go.Proofs.Ytbpihfphoniclaa
open Go.RowKit
set_option linter.unusedVariables false
theorem call_any {base t : Nat} {L : Lay} {S : St} (k th p s n : Int) (b : Nat) (v : Int) (w : World) (h : RepL w base t L S) (hin : Inv S 1000) (hb64 : b < 18446744073709551616) (h0 : 0 ≤ k) (h1 : k < 8) :
    Calls Try.prog 18 #[.pointer (some ⟨t, 0, none⟩), .agg (opc k th p s n b v)] w fun e w' => ∃ u, e = .returned (.agg u) ∧ After base t (callS S k th p s n b v) w w' := by
  obtain rfl | rfl | rfl | rfl | rfl | rfl | rfl | rfl : k = 0 ∨ k = 1 ∨ k = 2 ∨ k = 3 ∨ k = 4 ∨ k = 5 ∨ k = 6 ∨ k = 7 := by omega
  · exact (call_0 th p s n b v w h hin hb64).mono fun e w' ⟨wk, he, _, ha⟩ => ⟨_, he, ha⟩
  · exact (call_1 th p s n b v w h hin hb64).mono fun e w' ⟨wk, he, _, ha⟩ => ⟨_, he, ha⟩
  · exact (call_2 th p s n b v w h hin hb64).mono fun e w' ⟨wk, he, _, ha⟩ => ⟨_, he, ha⟩
  · exact (call_3 th p s n b v w h hin hb64).mono fun e w' ⟨wk, he, _, ha⟩ => ⟨_, he, ha⟩
  · exact (call_4 th p s n b v w h hin hb64).mono fun e w' ⟨wk, he, _, ha⟩ => ⟨_, he, ha⟩
  · exact (call_5 th p s n b v w h hin hb64).mono fun e w' ⟨wk, he, _, ha⟩ => ⟨_, he, ha⟩
  · exact (call_6 th p s n b v w h hin hb64).mono fun e w' ⟨wk, he, _, ha⟩ => ⟨_, he, ha⟩
  · exact (call_7 th p s n b v w h hin hb64).mono fun e w' ⟨wk, he, _, ha⟩ => ⟨_, he, ha⟩
def op5 (i : Nat) : Array Value := opc 0 (i : Int) (if 3 ≤ i then 1 else 0) 0 0 0 0
def cells5 : Array Value := op5 0 ++ op5 1 ++ op5 2 ++ op5 3 ++ op5 4
set_option maxRecDepth 100000 in
theorem started17 (w : World) : Calls Try.prog 17 #[] w fun e w' => e = .returned (.slice (some ⟨w.heap.size, 0, none⟩) 5 5) ∧ w' = w.alloc (.cells cells5 49) := by
  go_enter Try.func17, Try.ntmps17
  go_wp2
  go_ret
  exact ⟨rfl, rfl⟩
end Go.Proofs.Ytbpihfphoniclaa
