/- The laws PathsCleans and PathsBack for the rows. -/
import Derived.Test.YtedoonfegcgmeaaD2
import Derived.Test.YtedoonfegcgmeaaE3
namespace Go.Proofs.Ytedoonfegcgmeaa
open Go.RowKit
theorem str_of (a : ByteArray) : str a.data.toList = .string a := by unfold str; simp
theorem cleans_row (a b : ByteArray) (W : World) (_ : a.size ≤ 140737488351232) (_ : b.size ≤ 140737488351232) : Calls Try.prog 3 #[.string a, .string b] W fun e w' => e = .returned (.bool true) ∧ Below W.heap.size W w' := by
  have := cleans_law awake_calls a.data.toList b.data.toList W
  rwa [str_of, str_of] at this
theorem back_row (a b : ByteArray) (W : World) (_ : a.size ≤ 140737488351232) (_ : b.size ≤ 140737488351232) : Calls Try.prog 4 #[.string a, .string b] W fun e w' => e = .returned (.bool true) ∧ Below W.heap.size W w' := by
  have := back_law awake_calls a.data.toList b.data.toList W
  rwa [str_of, str_of] at this
end Go.Proofs.Ytedoonfegcgmeaa
