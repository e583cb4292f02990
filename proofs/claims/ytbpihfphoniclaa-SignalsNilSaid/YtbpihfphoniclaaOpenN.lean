import Derived.Test.YtbpihfphoniclaaO1
import Derived.Test.YtbpihfphoniclaaD5
namespace Go.Proofs.Ytbpihfphoniclaa
open Go.RowKit
theorem nil_row (k th p s n : Int) (b : Nat) (v : Int) (w : World) (_ : b < 18446744073709551616) (_ : okI k) (_ : okI th) (_ : okI p) (_ : okI s) (_ : okI n) (_ : okI v) : Calls Try.prog 9 #[.agg (opc k th p s n b v)] w fun e w' => e = .returned (.bool true) ∧ Below w.heap.size w w' := nil_law k th p s n b v w
end Go.Proofs.Ytbpihfphoniclaa
