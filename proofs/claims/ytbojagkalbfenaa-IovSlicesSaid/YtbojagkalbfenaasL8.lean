import Derived.Test.YtbojagkalbfenaasL7
namespace Go.Proofs.Ytbojagkalbfenaa
set_option linter.unusedSimpArgs false
open Go.RowKit PIovSlices Go.Proofs.YtbojagkalbfenaaW.PrintWords

/-- small's answer, for one memory. -/
def smallB (nl nm : Nat) : Bool := decide (wrap64 ((nl : Int) + wrap64 ((nm : Int) / 100)) ≤ 60)
theorem small_f (l : List S44) (mem : List Int) {k : Nat} (hk : 3 ≤ k) : orpimentlaw09_small.f k l [mem] = some (smallB l.length mem.length) := by
  obtain ⟨m, rfl⟩ : ∃ m, k = m + 1 + 1 := ⟨k - 2, by omega⟩
  have hw1 : wrap64 1 = 1 := by unfold wrap64; omega
  simp [orpimentlaw09_small.f, orpimentlaw09_small.l0, hw1, rd_L1, smallB]
/-- A small input: the list is not valid (too long), or both are short. -/
theorem small_cases {nl nm : Nat} (h : smallB nl nm = true) (h1 : nl ≤ 9223372036854775807) (h2 : nm ≤ 9223372036854775807) : 16 < nl ∨ nm ≤ 6100 := by
  simp only [smallB, decide_eq_true_eq] at h
  unfold wrap64 at h
  omega
end Go.Proofs.Ytbojagkalbfenaa
