import Derived.Test.YtbojagkalbfenaasG7
namespace Go.Proofs.Ytbojagkalbfenaa
open Go.RowKit PIovSlices Go.Proofs.YtbojagkalbfenaaW.PrintWords
attribute [local go_sem] ints_get ints_size ints_getElem

/-- A row of one slice of bytes. -/
theorem C_one {w : World} {g : Nat} {M : Option Addr} {ms : List Int} {mc : Nat} {t : TypeId} {fr : Nat × Nat} (h : w.heap[g]? = some (.cells #[.slice M ms.length mc] t fr)) (hmc : ms.length ≤ mc) (hC : Kd.C (Kd.int .u8) w M ms.length ms) :
    Kd.C (Kd.slice 5 (Kd.int .u8)) w (some ⟨g, 0, none⟩) ([ms] : List (List Int)).length [ms] := by
  refine ⟨rfl, by simp, fun _ => ⟨_, rfl, fun j p hj => ?_⟩⟩
  match j, hj with
  | 0, hj =>
    cases hj
    refine ⟨[.slice M ms.length mc], rfl, ⟨M, mc, rfl, hmc, hC⟩, fun i u hi => ?_⟩
    match i, hi with
    | 0, hi =>
      cases hi
      rw [add_at, cell_of_row _ _ _ _ _ _ h]
      rfl
    | i + 1, hi => simp at hi
  | j + 1, hj => simp at hj
end Go.Proofs.Ytbojagkalbfenaa
