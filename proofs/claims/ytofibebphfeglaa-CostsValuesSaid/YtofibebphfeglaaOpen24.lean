/- How the cost tables of this program are read when they come in as arguments: two integers and an array of 24 integers, of any values. -/
import Derived.Test.YtofibebphfeglaaProg
import Derived.Test.YtofibebphfeglaaOpen
namespace Go.Proofs.Ytofibebphfeglaa
open Go.RowKit
theorem open24 {H : Type} {enc : TypeId × Value → H} {w : World} {base : Nat} {spare : Nat → Bool} {held : Bool} {r : Reach} {b0 : Nat} {v : Value} {d : DataW H} {p : List MemPlace}
    (hv : Value.okWide Try.prog w r b0 24 v) (h : DataW.Trod enc Try.prog w base spare held 24 v d p) : ∃ (s c : Int) (l : List Int), v = .agg (ints (s :: c :: l)) ∧ l.length = 24 :=
  open_tab Try.underlying24 ⟨rfl, rfl, rfl⟩ Try.underlying2 Try.underlying2 Try.underlying22 Try.underlying2 (by kernel_rfl) (by kernel_rfl) (by kernel_rfl) (by kernel_rfl) (by kernel_rfl) hv h
end Go.Proofs.Ytofibebphfeglaa
