/- The law of IovGather, its facts in the order in which the row has them. -/
import Derived.Test.YtbojagkalbfenaaOpen
namespace Go.Proofs.Ytbojagkalbfenaa
open Go.RowKit PIovGather Go.Proofs.YtbojagkalbfenaaW.PrintWords
theorem gather_row (A0 : Option Addr) (cap0 : Nat) (ms0 : List Int) (A1 : Option Addr) (cap1 : Nat) (l1 : List S44) (a2 b2 : Int) (w : World) (c0 : Kd.C (Kd.int .u8) w A0 ms0.length ms0) (hc0 : ms0.length ≤ cap0) (hm0 : cap0 ≤ 9223372036854775807)
    (v1 : Kd.V k44 44 w w.heap.size (fun k => k < w.heap.size) (.slice A1 l1.length cap1) l1) (hA1 : ∀ ad, A1 = some ad → ad.block < w.heap.size) (_ : l1.length * 16 ≤ 140737488351232) :
    Calls Try.prog 3 #[.slice A0 ms0.length cap0, .slice A1 l1.length cap1, .agg #[.int .i64 a2, .int .i64 b2]] w fun e w' => e = .returned (.bool true) ∧ Below w.heap.size w w' :=
  law_calls A0 A1 ms0 l1 cap0 cap1 a2 b2 _ w c0 hc0 hm0 v1 hA1
end Go.Proofs.Ytbojagkalbfenaa
