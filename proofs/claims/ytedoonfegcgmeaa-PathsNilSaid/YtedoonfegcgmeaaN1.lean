/- The methods of a nil table; the law PathsNil. -/
import Derived.Test.YtedoonfegcgmeaaD2
namespace Go.Proofs.Ytedoonfegcgmeaa
open Go.RowKit
set_option linter.unusedVariables false
theorem nil13 (cs : Array Value) (h : cs.size = 3) (w : World) : Calls Try.prog 13 #[.pointer none, .agg cs] w fun e w' => e = .returned (.tuple #[.int .i64 0, .int .i64 35]) ∧ Below w.heap.size w w' := by
  go_enter Try.func13, Try.ntmps13
  go_wp2
  go_ret2
  exact ⟨rfl, (Below.refl _ w).alloc (Nat.le_refl _) _⟩
theorem nil14 (a b : ByteArray) (f : Bool) (w : World) : Calls Try.prog 14 #[.pointer none, .string a, .string b, .bool f] w fun e w' => e = .returned (.tuple #[.string ⟨#[]⟩, .int .i64 35]) ∧ Below w.heap.size w w' := by
  go_enter Try.func14, Try.ntmps14
  go_wp2
  go_ret2
  exact ⟨rfl, Below.refl _ w⟩
theorem nil15 (a b : ByteArray) (f : Bool) (w : World) : Calls Try.prog 15 #[.pointer none, .string a, .string b, .bool f] w fun e w' => e = .returned (.tuple #[.string ⟨#[]⟩, .slice none 0 0, .int .i64 35]) ∧ Below w.heap.size w w' := by
  go_enter Try.func15, Try.ntmps15
  go_wp2_with (go_at_call 14; refine (nil14 a b f _).mono ?_; rintro e w1 ⟨rfl, hb⟩; have HB := Lib.hid hb; clear hb)
  go_ret3
  exact ⟨rfl, HB.out⟩
theorem nil16 (a : ByteArray) (w : World) : Calls Try.prog 16 #[.pointer none, .string a] w fun e w' => e = .returned (.tuple #[.slice none 0 0, .int .i64 35]) ∧ Below w.heap.size w w' := by
  go_enter Try.func16, Try.ntmps16
  go_wp2
  go_ret2
  exact ⟨rfl, Below.refl _ w⟩
theorem nil17 (n : Int) (w : World) : Calls Try.prog 17 #[.pointer none, .int .i64 n] w fun e w' => e = .returned (.int .i64 35) ∧ Below w.heap.size w w' := by
  go_enter Try.func17, Try.ntmps17
  go_wp2
  go_ret
  exact ⟨rfl, (Below.refl _ w).alloc (Nat.le_refl _) _⟩
theorem nil18 (a b : ByteArray) (w : World) : Calls Try.prog 18 #[.pointer none, .string a, .string b] w fun e w' => e = .returned (.int .i64 35) ∧ Below w.heap.size w w' := by
  go_enter Try.func18, Try.ntmps18
  go_wp2
  go_ret
  exact ⟨rfl, Below.refl _ w⟩
theorem nil19 (a : ByteArray) (w : World) : Calls Try.prog 19 #[.pointer none, .string a] w fun e w' => e = .returned (.int .i64 35) ∧ Below w.heap.size w w' := by
  go_enter Try.func19, Try.ntmps19
  go_wp2
  go_ret
  exact ⟨rfl, Below.refl _ w⟩
theorem nil20 (w : World) : Calls Try.prog 20 #[.pointer none] w fun e w' => e = .returned (.slice none 0 0) ∧ Below w.heap.size w w' := by
  go_enter Try.func20, Try.ntmps20
  go_wp2
  go_ret
  exact ⟨rfl, Below.refl _ w⟩
end Go.Proofs.Ytedoonfegcgmeaa
